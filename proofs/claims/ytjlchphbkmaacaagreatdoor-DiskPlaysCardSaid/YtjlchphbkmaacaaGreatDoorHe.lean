/- The reference's Names, without. -/
import Derived.Test.YtjlchphbkmaacaaGreatDoorHd
set_option linter.unusedVariables false
set_option linter.unusedSimpArgs false
namespace Go.Proofs.YtjlchphbkmaacaaGreatDoor
open Go.RowKit Go.MapKept Go.ChangeMaps Go.Maps
attribute [local go_sem ↓] Go.wp_at_zero Go.wp_at_succ
open Dk

theorem eln_str : ElN 53 9 (.string ⟨#[]⟩) 16 1 := ⟨Tryz.underlying53, by kernel_rfl, rfl, by decide⟩
theorem eln_file : ElN 59 80 (.agg #[.string ⟨#[]⟩, .slice none 0 0, .slice none 0 0]) 64 3 := ⟨Tryz.underlying59, by kernel_rfl, rfl, by decide⟩
theorem eln_u8 : ElN 31 5 (.int .u8 0) 1 1 := ⟨Tryz.underlying31, by kernel_rfl, rfl, by decide⟩

section
variable {σ : Nat → Option Role} {w : World} {rd : Nat} {s : St} {vF : Value} {fv lv : Nm → Value}

def RNamesPost (w : World) (s : St) (e : Ending) (w' : World) : Prop :=
  ∃ v, e = .returned v ∧ w'.ownsRow w.heap.size 9 1 v (names s).length ((names s).map encStr) ∧ Below w.heap.size w w'
set_option maxRecDepth 100000 in
set_option maxHeartbeats 1000000 in
theorem rnames_any (h : RefX σ w rd s vF fv lv) (hg : Fine s) :
    Calls Tryz.prog 40 #[.pointer (some ⟨rd, 0, none⟩)] w (RNamesPost w s) := by
  obtain ⟨p, c, rfl⟩ := h.form
  have H := Lib.hid h
  have HG := Lib.hid hg
  have d0 := h.d0
  have d3 := h.d3
  have hlen := hg.files
  generalize hl : s.F.length = len at *
  have HL := Lib.hid hl
  clear h hg hl
  cases ho : s.off
  · have HO := Lib.hid ho
    rw [ho] at d3
    clear ho d0 d3
    go_enter Tryz.func40, Tryz.ntmps40
    go_wp2_with fail
    go_loopw [3, 4] (fun v i wr => ∃ k : Nat, k ≤ len ∧ i = .int .i64 k ∧ wr.ownsRow w.heap.size 9 1 v k ((s.F.take k).map fun x => encStr x.1) ∧ Below w.heap.size w wr) (fun _ i _ => len - (intOf i).toNat)
    case atStart => exact ⟨0, Nat.zero_le _, rfl, World.ownsRow_nil _ _ _ _, Below.refl _ _⟩
    case round =>
      obtain ⟨k, hk, rfl, hown, hb⟩ := hrel
      have HX := Lib.hid (H.out.below hb)
      have HB := Lib.hid hb
      have HOW := Lib.hid hown
      clear hb hown
      have d0 := HX.out.d0
      have d3 := HX.out.d3
      rw [HO.out] at d3
      by_cases hlt : k < len
      · obtain ⟨x, hx⟩ : ∃ x, s.F[k]? = some x := ⟨_, List.getElem?_eq_getElem (by rw [HL.out]; exact hlt)⟩
        obtain ⟨g, c', hv, ht0, _, _, _, _, _⟩ := HX.out.tri hx
        simp only [Value.slice.injEq] at hv
        obtain ⟨rfl, hv0, rfl⟩ := hv
        clear hv0
        obtain ⟨v', w', hrun, k1, k2, k3⟩ := pushN eln_str wr w.heap.size u3 k _ HOW.out #[encStr x.1] rfl (fun u hu => by simp at hu; rw [hu]; rfl) (by unfold maxLen; omega) (by omega) HB.out.size 53
        have hb' : Below w.heap.size w w' := (HB.out.alloc HB.out.size _).grown k2 (by simp; have := HB.out.size; omega) fun g hg => (HOW.out.lt g hg).1
        have hts : ((s.F.take (k + 1)).map fun x => encStr x.1) = ((s.F.take k).map fun x => encStr x.1) ++ [encStr x.1] := by
          obtain ⟨hkl, e⟩ := List.getElem?_eq_some_iff.1 hx
          rw [List.take_succ_eq_append_getElem hkl, List.map_append, e]
          rfl
        have k1 : w'.ownsRow w.heap.size 9 1 v' (k + 1) (((s.F.take k).map fun x => encStr x.1) ++ [encStr x.1]) := k1
        rw [← hts] at k1
        have K1 := Lib.hid k1
        have KB := Lib.hid hb'
        have hrun' : (Builtin.append_ #[53, 53] 53 #[u3, .slice (some ⟨wr.heap.size, 0, none⟩) 1 1]).run Tryz.prog (wr.alloc (.cells #[.string ⟨x.1.toArray⟩] 9)) = .ok v' w' := hrun
        clear hts k1 k2 k3 hb' hx hrun
        go_wp2_with (first
          | (at_builtin; refine wpList_append_run rfl _ _ 53 rfl _ _ _ rfl rfl hrun' ?_)
          | fail)
        go_roundw
        case rel => exact ⟨k + 1, by omega, by go_num, K1.out, KB.out⟩
        case measure => simp [intOf]; omega
      · obtain rfl : k = len := by omega
        have hown := HOW.out
        rw [List.take_of_length_le (by rw [HL.out]; exact Nat.le_refl _)] at hown
        obtain ⟨q, d, rfl⟩ := own_slice hown
        have HOW2 := Lib.hid hown
        clear hown
        go_wp2_with fail
        go_ret
        have hn : names s = s.F.map (·.1) := by unfold names; rw [HO.out]; rfl
        refine ⟨_, rfl, ?_, HB.out⟩
        rw [hn, List.length_map, HL.out, List.map_map]
        exact HOW2.out
  · have HO := Lib.hid ho
    rw [ho] at d3
    clear ho
    have hn : names s = [] := by unfold names; rw [HO.out]; rfl
    have HN := Lib.hid hn
    clear hn
    go_enter Tryz.func40, Tryz.ntmps40
    go_wp2_with fail
    go_loop [3, 4] (fun t i => t = .slice none 0 0 ∧ i = .int .i64 0) (fun _ _ => 0)
    case atStart => exact ⟨rfl, rfl⟩
    case round =>
      obtain ⟨rfl, rfl⟩ := hrel
      by_cases h0 : 0 < len
      · go_wp2_with fail
        go_ret
        unfold RNamesPost
        rw [HN.out]
        exact ⟨_, rfl, World.ownsRow_nil _ _ _ _, Below.refl _ _⟩
      · obtain rfl : len = 0 := by omega
        go_wp2_with fail
        go_ret
        unfold RNamesPost
        rw [HN.out]
        exact ⟨_, rfl, World.ownsRow_nil _ _ _ _, Below.refl _ _⟩

theorem del_take_yes {n : Nm} {F : List (Nm × Fi)} {k : Nat} {x : Nm × Fi} (hx : F[k]? = some x) (h : x.1 = n) : del n (F.take (k + 1)) = del n (F.take k) := by
  obtain ⟨hk, e⟩ := List.getElem?_eq_some_iff.1 hx
  rw [List.take_succ_eq_append_getElem hk, e]
  unfold del
  rw [List.filter_append]
  simp [h]
theorem del_take_no {n : Nm} {F : List (Nm × Fi)} {k : Nat} {x : Nm × Fi} (hx : F[k]? = some x) (h : x.1 ≠ n) : del n (F.take (k + 1)) = del n (F.take k) ++ [x] := by
  obtain ⟨hk, e⟩ := List.getElem?_eq_some_iff.1 hx
  rw [List.take_succ_eq_append_getElem hk, e]
  unfold del
  rw [List.filter_append]
  simp [h]
theorem tri_one {fv lv : Nm → Value} {x : Nm × Fi} {a b : Nat} {p q : Option Addr} {c d : Nat} (h1 : fv x.1 = .slice p a c) (h2 : lv x.1 = .slice q b d) : ∀ u ∈ triV fv lv x, u.oneCell' = true := by
  intro u hu
  unfold triV at hu
  rw [h1, h2] at hu
  simp only [List.mem_cons, List.not_mem_nil, or_false] at hu
  rcases hu with rfl | rfl | rfl <;> rfl

def RWithoutPost (n : Nm) (w : World) (s : St) (fv lv : Nm → Value) (e : Ending) (w' : World) : Prop :=
  ∃ p c, e = .returned (.slice p (del n s.F).length c) ∧ w'.ownsRow w.heap.size 80 3 (.slice p (del n s.F).length c) (del n s.F).length (cellsF fv lv (del n s.F)) ∧ Below w.heap.size w w'
theorem own3_slice {w : World} {base : Nat} {e : TypeId} {k : Nat} {v : Value} {n : Nat} {xs : List Value} (h : w.ownsRow base e k v n xs) : ∃ a c, v = .slice a n c := by
  rcases h.2 with ⟨h1, h2⟩ | ⟨g, cap, cur, hv, _⟩
  · exact ⟨none, 0, by rw [h1, h2]⟩
  · exact ⟨_, _, hv⟩
set_option maxRecDepth 100000 in
set_option maxHeartbeats 1000000 in
theorem rwithout_any (h : RefX σ w rd s vF fv lv) (hg : Fine s) (n : ByteArray) :
    Calls Tryz.prog 60 #[.pointer (some ⟨rd, 0, none⟩), .string n] w (RWithoutPost n.data.toList w s fv lv) := by
  obtain ⟨p, c, rfl⟩ := h.form
  have H := Lib.hid h
  have HG := Lib.hid hg
  have hlen := hg.files
  generalize hl : s.F.length = len at *
  have HL := Lib.hid hl
  clear h hg hl
  have hnl : n.toList = n.data.toList := ByteArray.toList_eq n
  have HNL := Lib.hid hnl
  clear hnl
  go_enter Tryz.func60, Tryz.ntmps60
  go_wp2_with fail
  go_loopw [5, 6] (fun v i wr => ∃ k : Nat, k ≤ len ∧ i = .int .i64 k ∧ wr.ownsRow w.heap.size 80 3 v (del n.data.toList (s.F.take k)).length (cellsF fv lv (del n.data.toList (s.F.take k))) ∧ Below w.heap.size w wr) (fun _ i _ => len - (intOf i).toNat)
  case atStart => exact ⟨0, Nat.zero_le _, rfl, World.ownsRow_nil _ _ _ _, Below.refl _ _⟩
  case round =>
    obtain ⟨k, hk, rfl, hown, hb⟩ := hrel
    have HX := Lib.hid (H.out.below hb)
    have HB := Lib.hid hb
    have HOW := Lib.hid hown
    clear hb hown
    have d0 := HX.out.d0
    by_cases hlt : k < len
    · obtain ⟨x, hx⟩ : ∃ x, s.F[k]? = some x := ⟨_, List.getElem?_eq_getElem (by rw [HL.out]; exact hlt)⟩
      obtain ⟨g, c', hv, ht0, ht1, ht2, _, _, _⟩ := HX.out.tri hx
      simp only [Value.slice.injEq] at hv
      obtain ⟨rfl, hv0, rfl⟩ := hv
      clear hv0
      have HXX := Lib.hid hx
      clear hx
      by_cases he : x.1 = n.data.toList
      · have k0 : (x.1 == n.toList) = true := by rw [HNL.out, he]; exact beq_self_eq_true _
        have HE := Lib.hid he
        clear he
        go_wp2_with fail
        go_roundw
        case rel => exact ⟨k + 1, by omega, by go_num, by rw [del_take_yes HXX.out HE.out]; exact HOW.out, HB.out⟩
        case measure => simp [intOf]; omega
      · have k0 : (x.1 == n.toList) = false := by rw [HNL.out]; exact beq_eq_false_iff_ne.2 he
        have HE := Lib.hid he
        clear he
        have hmem := List.mem_of_getElem? HXX.out
        obtain ⟨pf, cf, ef⟩ := own_slice (HX.out.hf x hmem)
        obtain ⟨pl, cl, el⟩ := own_slice (HX.out.hl x hmem)
        have hdl : (del n.data.toList (s.F.take k)).length ≤ 512 := Nat.le_trans (length_del_le _ _) (by rw [List.length_take]; omega)
        obtain ⟨v', w', hrun, k1, k2, k3⟩ := pushN eln_file wr w.heap.size u5 _ _ HOW.out (triV fv lv x).toArray rfl (fun u hu => tri_one ef el u (by simpa using hu)) (by unfold maxLen; omega) (by omega) HB.out.size 59
        have hb' : Below w.heap.size w w' := (HB.out.alloc HB.out.size _).grown k2 (by simp; have := HB.out.size; omega) fun g hg => (HOW.out.lt g hg).1
        have k1 : w'.ownsRow w.heap.size 80 3 v' (del n.data.toList (s.F.take (k + 1))).length (cellsF fv lv (del n.data.toList (s.F.take (k + 1)))) := by
          rw [del_take_no HXX.out HE.out, cellsF_append, cellsF_one, List.length_append]
          exact k1
        have K1 := Lib.hid k1
        have KB := Lib.hid hb'
        have hrun' : (Builtin.append_ #[59, 59] 59 #[u5, .slice (some ⟨wr.heap.size, 0, none⟩) 1 1]).run Tryz.prog (wr.alloc (.cells #[.string ⟨x.1.toArray⟩, fv x.1, lv x.1] 80)) = .ok v' w' := hrun
        clear k1 k2 k3 hb' hrun hdl
        rw [ef] at ht1 hrun'
        rw [el] at ht2 hrun'
        clear ef el hmem
        go_wp2_with (first
          | (at_builtin; refine wpList_append_run rfl _ _ 59 rfl _ _ _ rfl rfl hrun' ?_)
          | fail)
        go_roundw
        case rel => exact ⟨k + 1, by omega, by go_num, K1.out, KB.out⟩
        case measure => simp [intOf]; omega
    · obtain rfl : k = len := by omega
      have hown := HOW.out
      rw [List.take_of_length_le (by rw [HL.out]; exact Nat.le_refl _)] at hown
      obtain ⟨q, d, rfl⟩ := own3_slice hown
      have HOW2 := Lib.hid hown
      clear hown
      go_wp2_with fail
      go_ret
      exact ⟨q, d, rfl, HOW2.out, HB.out⟩
end
end Go.Proofs.YtjlchphbkmaacaaGreatDoor
