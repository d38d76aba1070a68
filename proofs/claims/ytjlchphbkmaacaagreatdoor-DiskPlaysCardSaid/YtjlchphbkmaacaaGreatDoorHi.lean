/- The reference's Append, Sync. -/
import Derived.Test.YtjlchphbkmaacaaGreatDoorHh
import Derived.Test.YtjlchphbkmaacaaGreatDoorRl
import Derived.Deep.DeepCutAuto
set_option linter.unusedVariables false
set_option linter.unusedSimpArgs false
namespace Go.Proofs.YtjlchphbkmaacaaGreatDoor
open Go.RowKit Go.MapKept Go.ChangeMaps Go.Maps
attribute [local go_sem ↓] Go.wp_at_zero Go.wp_at_succ
open Dk

namespace Dk
/-- One cell of one file is written. -/
theorem cellsF_set {fv lv : Nm → Value} {F : List (Nm × Fi)} (hr : F.Pairwise fun x y => bytesBefore x.1 y.1 = true) {k : Nat} {x : Nm × Fi} (hx : F[k]? = some x) {j : Nat} (hj : j < 3) {u : Value} {fv' lv' : Nm → Value}
    (ho : ∀ m, m ≠ x.1 → fv' m = fv m ∧ lv' m = lv m) (ht : triV fv' lv' x = (triV fv lv x).set j u) : (cellsF fv lv F).set (k * 3 + j) u = cellsF fv' lv' F := by
  refine List.ext_getElem? fun i => ?_
  have hkl := (List.getElem?_eq_some_iff.1 hx).1
  by_cases hi : i < F.length * 3
  · obtain ⟨q, r, hq, hr3, rfl⟩ : ∃ q r, q < F.length ∧ r < 3 ∧ i = q * 3 + r := ⟨i / 3, i % 3, by omega, by omega, by omega⟩
    have hy := List.getElem?_eq_getElem hq
    rw [cellsF_at fv' lv' F q r _ hy hr3]
    by_cases hqk : q = k
    · subst hqk
      rw [hx] at hy
      have e : F[q] = x := (Option.some.inj hy).symm
      rw [e, ht]
      by_cases hrj : j = r
      · subst hrj
        rw [List.getElem?_set_self (by rw [cellsF_len]; omega), List.getElem?_set_self (by exact hr3)]
      · rw [List.getElem?_set_ne (by omega), List.getElem?_set_ne hrj, cellsF_at fv lv F q r x (by rw [hx]) hr3]
    · rw [List.getElem?_set_ne (by omega), cellsF_at fv lv F q r _ hy hr3]
      have hne : F[q].1 ≠ x.1 := fun e => by
        have hnd := rise_nodup hr
        have h1 : (F.map (·.1))[q]? = some x.1 := by rw [List.getElem?_map, hy, ← e]; rfl
        have h2 : (F.map (·.1))[k]? = some x.1 := by rw [List.getElem?_map, hx]; rfl
        exact hqk ((List.getElem?_inj (by rw [List.length_map]; omega) hnd).1 (h1.trans h2.symm))
      unfold triV
      rw [(ho _ hne).1, (ho _ hne).2]
  · rw [List.getElem?_eq_none (by rw [List.length_set, cellsF_len]; omega), List.getElem?_eq_none (by rw [cellsF_len]; omega)]
end Dk

section
variable {σ : Nat → Option Role} {w : World} {rd : Nat} {s : St} {vF : Value} {fv lv : Nm → Value}
/-- One file's bytes are others. -/
theorem Dk.RefX.setRow (h : RefX σ w rd s vF fv lv) {w5 w6 : World} (hb : Below w.heap.size w w5) {g : Nat} (hg : vF.ownBlock = some g) (hgr : w5.grownBy w6 (some g)) {n : Nm} {f' : Fi} {fv' lv' : Nm → Value}
    (row : w6.ownsRow 0 80 3 vF s.F.length (cellsF fv' lv' s.F)) (ho : ∀ m, m ≠ n → fv' m = fv m ∧ lv' m = lv m)
    (hfn : w6.ownsRow 0 5 1 (fv' n) (fastB f').length ((fastB f').map encU8)) (hfm : ∀ b, (fv' n).ownBlock = some b → mine σ w b)
    (hln : w6.ownsRow 0 5 1 (lv' n) (looseB f').length ((looseB f').map encU8)) (hlm : ∀ b, (lv' n).ownBlock = some b → mine σ w b) :
    RefX (newσ σ w w6) w6 rd { s with F := setF n f' s.F } vF fv' lv' ∧ Only σ w w6 := by
  have hgrole := h.rr g hg
  have hoo : Only σ w w6 := (Only.of_below hb).grown hgr fun b e => by cases e; exact .inl hgrole
  have hnn : (setF n f' s.F).map (·.1) = s.F.map (·.1) := setF_names n f' s.F
  have hkeep : ∀ (v : Value) (m : Nat) (xs : List Value), w.ownsRow 0 5 1 v m xs → w6.ownsRow 0 5 1 v m xs := fun v m xs hv =>
    ownsRow_block hv fun b hb' => by
      rw [hgr.block b (Nat.lt_of_lt_of_le (hv.lt b hb').2 hb.size) (fun e => by cases e; exact (h.byte_ne hv hb').2 hg)]
      exact hb.block b (hv.lt b hb').2
  refine ⟨h.toX hoo ?_ ?_ (fun b hb' => .inl (h.rr b hb')) (fun x hx => ?_) (fun x hx => ?_), hoo⟩
  · rw [hgr.block rd (Nat.lt_of_lt_of_le h.rdlt hb.size) (fun e => by cases e; exact h.row_ne hg), hb.block rd h.rdlt]
    exact h.hd
  · show w6.ownsRow 0 80 3 vF (setF n f' s.F).length (cellsF fv' lv' (setF n f' s.F))
    rw [cellsF_names hnn]
    have hl := congrArg List.length hnn
    rw [List.length_map, List.length_map] at hl
    rw [hl]
    exact row
  · rcases mem_setF (show x ∈ setF n f' s.F from hx) with ⟨rfl, _⟩ | ⟨h1, h2⟩
    · exact ⟨hfn, hfm⟩
    · rw [(ho _ h2).1]
      exact ⟨hkeep _ _ _ (h.hf x h1), fun b hb' => .inl (h.rf x h1 b hb')⟩
  · rcases mem_setF (show x ∈ setF n f' s.F from hx) with ⟨rfl, _⟩ | ⟨h1, h2⟩
    · exact ⟨hln, hlm⟩
    · rw [(ho _ h2).2]
      exact ⟨hkeep _ _ _ (h.hl x h1), fun b hb' => .inl (h.rl x h1 b hb')⟩

theorem append_e {n : Nm} {b : List UInt8} {s : St} {z : Int} (h : first [answers s, there n s, if s.quota - used s < b.length then 7 else 0] = z) (hz : z ≠ 0) : append n b s = (z, s) := by
  unfold append; rw [Dk.asked_err (by rw [h]; exact hz), h]
theorem first_append {z q : Int} {a b : Int} (h : first [a, b] = z) (hz : z ≠ 0) : first [a, b, q] = z := by
  unfold first first first at h ⊢
  split
  · rename_i h1
    rw [if_pos h1] at h
    split
    · rename_i h2
      rw [if_pos h2] at h
      exact absurd h.symm hz
    · rename_i h2
      rw [if_neg h2] at h
      exact h
  · rename_i h1
    rw [if_neg h1] at h
    exact h
theorem first_append0 {q : Int} {a b : Int} (h : first [a, b] = 0) : first [a, b, q] = q := by
  unfold first first first at h ⊢
  split at h
  · rename_i h1
    rw [if_pos h1]
    split at h
    · rename_i h2
      rw [if_pos h2]
      unfold first
      split
      · rename_i h3; rw [h3]
      · rfl
    · contradiction
  · contradiction

/-- What is not read may change. -/
theorem Dk.BytesAt.keep2 {w w' : World} {p : Option Addr} {m : Nat} {bs : List UInt8} (h : BytesAt w p m bs) (hk : 0 < m → ∀ a, p = some a → a.block < w.heap.size → w'.heap[a.block]? = w.heap[a.block]?) : BytesAt w' p m bs := by
  by_cases h0 : 0 < m
  · exact h.keep (hk h0)
  · have hl := h.len
    obtain rfl : bs = [] := List.eq_nil_of_length_eq_zero (by omega)
    exact ⟨h.len, h.nil, fun a e j u hu => by simp at hu⟩

set_option maxRecDepth 100000 in
set_option maxHeartbeats 4000000 in
theorem rappend_any (h : RefX σ w rd s vF fv lv) (hg : Fine s) (n : ByteArray) (hn : n.size ≤ maxLen) (pb : Option Addr) (m cb : Nat) (ns : List UInt8) (hp : BytesAt w pb m ns) (hpc : pb = none → cb = 0) (hpr : 0 < m → ∀ a, pb = some a → σ a.block = none) (hm : m ≤ 140737488355328) :
    Calls Tryz.prog 32 #[.pointer (some ⟨rd, 0, none⟩), .string n, .slice pb m cb] w (RefPost σ w rd (append n.data.toList ns s)) := by
  have H := Lib.hid h
  have HG := Lib.hid hg
  have HP := Lib.hid (And.intro hp (And.intro hpc hpr))
  clear h hg hp hpc hpr
  go_enter Tryz.func32, Tryz.ntmps32
  go_wp2_with fail
  refine (rfind_any H.out HG.out n hn).mono ?_
  rintro e w1 ⟨rfl, hb⟩
  have HB := Lib.hid hb
  have HX1 := Lib.hid (H.out.below hb)
  clear hb
  by_cases h0 : readE n.data.toList s = 0
  · have H0 := Lib.hid h0
    obtain ⟨f, hf⟩ := readE_get h0
    have HGET := Lib.hid hf
    have HATT := Lib.hid (at_get HG.out.rise hf)
    rw [if_pos h0, h0]
    clear h0 hf
    generalize hki : atI n.data.toList s.F = k at *
    have HKI := Lib.hid hki
    clear hki
    have d1 := HX1.out.d1
    have hu1 : used s ≤ 4194304 := by
      have := HG.out.bytes
      unfold used
      split <;> omega
    have HU := Lib.hid hu1
    have hns := HP.out.1.len
    have HNS := Lib.hid hns
    have HQ0 := Lib.hid (And.intro HG.out.q0 HG.out.q1)
    have hq0 := HG.out.q0
    have hq1 := HG.out.q1
    have hw : IntKind.i64.wrap ((used s : Int) + (m : Int)) = ((used s + m : Nat) : Int) := by rw [show (used s : Int) + (m : Int) = ((used s + m : Nat) : Int) by omega]; exact IntWalk.i64_in _ (by omega)
    have HUSED := Lib.hid (show ∀ V, Below w1.heap.size w1 V → Calls Tryz.prog 42 #[.pointer (some ⟨rd, 0, none⟩)] V (RUsedPost V s) from fun V hV => rused_any (HX1.out.below hV) HG.out)
    have HS1 := Lib.hid (show ∀ V, Below w1.heap.size w1 V → V.cell? ⟨rd, 1, none⟩ = some (.int .i64 s.quota) ∧ Below w1.heap.size w1 V from fun V hV => ⟨(hV.cell (cell_lt d1)).trans d1, hV⟩)
    generalize hU : used s = u at *
    have HUU := Lib.hid hU
    clear hu1 hns hU
    go_wp2_with fail
    go_upto_region 4 with fail
    go_cut [27] (fun v wx => v = .bool (decide (s.quota < ((u + m : Nat) : Int))) ∧ Below w1.heap.size w1 wx)
    case first =>
      go_region_held3 (fun w' => w'.cell? ⟨rd, 1, none⟩ = some (.int .i64 s.quota) ∧ Below w1.heap.size w1 w') (exact HS1.out _ (by repeat (first | assumption | exact Below.refl _ _ | exact below_drewN _ _ | apply Below.drew)))
        (first
          | (go_at_call 42; refine (HUSED.out _ ?_).mono ?_; (repeat (first | assumption | exact Below.refl _ _ | apply Below.drew)); rintro e w2 ⟨rfl, hb2⟩; rw [HUU.out]; have hbx : Below w1.heap.size w1 w2 := (Below.refl w1.heap.size w1).drew.trans hb2))
      all_goals
        go_wp2_with fail
        go_meet
        exact ⟨rfl, by assumption⟩
    case rest =>
      obtain ⟨rfl, hb2⟩ := hcut
      have HB2 := Lib.hid hb2
      clear hb2 hw d1
      by_cases hfull : s.quota < ((u + m : Nat) : Int)
      · have hk : decide (s.quota < ((u + m : Nat) : Int)) = true := by rw [decide_eq_true_iff]; exact hfull
        have HFU := Lib.hid hfull
        rw [hk]
        clear hfull hk hq0 hq1
        go_wp2_with fail
        go_ret
        refine RefPost.err (append_e ?_ (by decide)) H.out (HB.out.trans (HB2.out.mono HB.out.size))
        rw [first_append0 H0.out, HUU.out, HNS.out, if_pos (by have := HFU.out; omega)]
      · have hk : decide (s.quota < ((u + m : Nat) : Int)) = false := by rw [decide_eq_false_iff_not]; exact hfull
        have HFU := Lib.hid hfull
        have hml : m ≤ 4194304 := by omega
        have H00 := Lib.hid (show first [answers s, there n.data.toList s, if s.quota - used s < ns.length then 7 else 0] = 0 from by rw [first_append0 H0.out, HUU.out, HNS.out, if_neg (by omega)])
        rw [hk]
        clear hfull hk hq0 hq1
        have HX2 := Lib.hid (HX1.out.below HB2.out)
        go_wp2_with fail
        refine (rburns_any HX2.out HG.out).mono ?_
        rintro e w3 (⟨h0, rfl, hx, hf⟩ | ⟨h0, rfl, hx, hf⟩)
        · have HX3 := Lib.hid hx
          have HF3 := Lib.hid ((Fr.of_below (HB.out.trans (HB2.out.mono HB.out.size))).trans hf)
          have HQ := Lib.hid (show append n.data.toList ns s = (8, burnt s) from by unfold append; exact Dk.asked_off H00.out h0)
          clear hx hf h0
          go_wp2_with fail
          go_ret
          unfold RefPost
          rw [HQ.out]
          exact ⟨rfl, σ, ⟨_, _, _, HX3.out⟩, HF3.out⟩
        have HX3 := Lib.hid hx
        have HF3 := Lib.hid ((Fr.of_below (HB.out.trans (HB2.out.mono HB.out.size))).trans hf)
        have hq : append n.data.toList ns s = (0, { Dk.less s with F := setF n.data.toList ⟨f.b ++ ns, f.fast⟩ s.F }) := by
          unfold append
          rw [Dk.asked_ok H00.out h0]
          have : get n.data.toList (Dk.less s).F = some f := HGET.out
          rw [this]
          rfl
        have HQ := Lib.hid hq
        clear hx hf h0 hq
        obtain ⟨g, c, hv, _, ht1, ht2, hz, _, _⟩ := HX3.out.tri (s := Dk.less s) HATT.out
        subst hv
        have d0 := HX3.out.d0
        have hmem : (n.data.toList, f) ∈ s.F := List.mem_of_getElem? HATT.out
        have hfo := HX3.out.hf _ hmem
        have hlo := HX3.out.hl _ hmem
        have hsz := HG.out.size_le HGET.out
        have hfx := HG.out.fast _ hmem
        simp only at hfo hlo ht1 ht2 hfx
        obtain ⟨pf, cf, ef⟩ := own_slice hfo
        obtain ⟨pl, cl, el⟩ := own_slice hlo
        have hk : k < (Dk.less s).F.length := (List.getElem?_eq_some_iff.1 HATT.out).1
        have hl5 : (Dk.less s).F.length ≤ 512 := HG.out.files
        rw [ef] at ht1 hfo
        rw [el] at ht2 hlo
        have h1 := own_bytes hlo
        have hn1 := own_none hlo
        have h2 : BytesAt w3 pb m ns := HP.out.1.keep2 fun h0 a e hlt => (HF3.out.block a.block hlt (HP.out.2.2 h0 a e)).1
        have hn2 := HP.out.2.1
        have hfl := fastB_len hfx
        have hll := looseB_len f
        have hlong : (looseB f).length ≤ 4194304 := by omega
        have HE := Lib.hid (And.intro ef el)
        have HFX := Lib.hid (And.intro hfx hmem)
        generalize hL : (Dk.less s).F.length = len at *
        generalize hA : (fastB f).length = fa at *
        generalize hB2 : (looseB f).length = lb at *
        have HAB := Lib.hid (And.intro hA (And.intro hB2 hL))
        have hj0 : (0 : Int) ≤ (k : Int) := by omega
        have hjk : (k : Int) < (len : Int) := by omega
        have HZ := Lib.hid (hz (k * 3 + 2))
        have HS := Lib.hid (show ∀ V, Below w3.heap.size w3 V → V.cell? ⟨rd, 0, none⟩ = some (.slice (some ⟨g, 0, none⟩) len c) ∧ V.cell? ⟨g, k * 3 + 1, none⟩ = some (.slice pf fa cf) ∧ V.cell? ⟨g, k * 3 + 2, none⟩ = some (.slice pl lb cl) ∧ Below w3.heap.size w3 V from
          fun V hV => ⟨(hV.cell (cell_lt d0)).trans d0, (hV.cell (cell_lt ht1)).trans ht1, (hV.cell (cell_lt ht2)).trans ht2, hV⟩)
        have HOWN := Lib.hid (show ∀ V, Below w3.heap.size w3 V → Calls Tryz.prog 26 #[.slice pl lb cl] V (OwnPost V lb (looseB f)) from
          fun V hV => own_any V pl lb cl (looseB f) (h1.keep fun x _ hlt => hV.block _ hlt) hn1 (by omega))
        have HAPP := Lib.hid (show ∀ (w4 : World) (q : Option Addr) (d : Nat), w4.ownsRow w3.heap.size 5 1 (.slice q lb d) (looseB f).length ((looseB f).map encU8) → Below w3.heap.size w3 w4 → ∃ p5 c5 w5, (Builtin.append_ #[31, 31] 31 #[.slice q lb d, .slice pb m cb]).run Tryz.prog w4 = .ok (.slice p5 (lb + m) c5) w5 ∧ w5.ownsRow w3.heap.size 5 1 (.slice p5 (lb + m) c5) (lb + m) ((looseB f ++ ns).map encU8) ∧ Below w3.heap.size w3 w5 from
          fun w4 q d ho hb => own_app h1 h2 hn2 (by omega) (by rw [HAB.out.2.1] at ho; exact ho) hb _)
        clear hmem hfo hlo hsz hfx ef el hfl hll hL hA hB2 h1 hn1 h2 hn2 hz hlong
        go_wp2_with fail
        go_upto_region 8 with fail
        refine Late.start (fun w' => w'.cell? ⟨rd, 0, none⟩ = some (.slice (some ⟨g, 0, none⟩) len c) ∧ w'.cell? ⟨g, k * 3 + 1, none⟩ = some (.slice pf fa cf) ∧ w'.cell? ⟨g, k * 3 + 2, none⟩ = some (.slice pl lb cl) ∧ Below w3.heap.size w3 w') 18 (by kernel_rfl) ?_ (fun hHeld => ?_)
        · exact HS.out _ (Below.refl _ _).drew
        refine Late.take (i := 0) (oi := _) (v := (.pointer (some ⟨rd, 0, none⟩))) rfl (by kernel_rfl) (by kernel_rfl) (by kernel_rfl) (fun _ _ _ h => h) (by kernel_rfl) (Or.inl ⟨by rfl, ?_⟩) (by assumption) ?_
        · intro w' hSw
          (try dsimp only at hSw)
          go_simp
        (try simp only [Act.put, List.setIfInBounds_toArray, List.set_cons_zero, List.set_cons_succ])
        refine Late.take (i := 1) (oi := _) (v := (.pointer (some ⟨rd, 0, none⟩))) rfl (by kernel_rfl) (by kernel_rfl) (by kernel_rfl) (fun _ _ _ h => h) (by kernel_rfl) (Or.inl ⟨by rfl, ?_⟩) (by assumption) ?_
        · intro w' hSw
          (try dsimp only at hSw)
          go_simp
        (try simp only [Act.put, List.setIfInBounds_toArray, List.set_cons_zero, List.set_cons_succ])
        refine Late.take (i := 2) (oi := _) (v := (.pointer (some ⟨rd, 0, none⟩))) rfl (by kernel_rfl) (by kernel_rfl) (by kernel_rfl) (fun _ _ _ h => h) (by kernel_rfl) (Or.inl ⟨by rfl, ?_⟩) (by assumption) ?_
        · intro w' hSw
          (try dsimp only at hSw)
          go_simp
        (try simp only [Act.put, List.setIfInBounds_toArray, List.set_cons_zero, List.set_cons_succ])
        refine Late.take (i := 3) (oi := _) (v := (.slice (some ⟨g, 0, none⟩) len c)) rfl (by kernel_rfl) (by kernel_rfl) (by kernel_rfl) (fun _ _ _ h => h) (by kernel_rfl) (Or.inl ⟨by rfl, ?_⟩) (by assumption) ?_
        · intro w' hSw
          (try dsimp only at hSw)
          go_simp
        (try simp only [Act.put, List.setIfInBounds_toArray, List.set_cons_zero, List.set_cons_succ])
        refine Late.take (i := 4) (oi := _) (v := (.int .i64 k)) rfl (by kernel_rfl) (by kernel_rfl) (by kernel_rfl) (fun _ _ _ h => h) (by kernel_rfl) (Or.inl ⟨by rfl, ?_⟩) (by assumption) ?_
        · intro w' hSw
          (try dsimp only at hSw)
          go_simp
        (try simp only [Act.put, List.setIfInBounds_toArray, List.set_cons_zero, List.set_cons_succ])
        refine Late.take (i := 5) (oi := _) (v := (.pointer (some ⟨rd, 0, none⟩))) rfl (by kernel_rfl) (by kernel_rfl) (by kernel_rfl) (fun _ _ _ h => h) (by kernel_rfl) (Or.inl ⟨by rfl, ?_⟩) (by assumption) ?_
        · intro w' hSw
          (try dsimp only at hSw)
          go_simp
        (try simp only [Act.put, List.setIfInBounds_toArray, List.set_cons_zero, List.set_cons_succ])
        refine Late.take (i := 6) (oi := _) (v := (.pointer (some ⟨rd, 0, none⟩))) rfl (by kernel_rfl) (by kernel_rfl) (by kernel_rfl) (fun _ _ _ h => h) (by kernel_rfl) (Or.inl ⟨by rfl, ?_⟩) (by assumption) ?_
        · intro w' hSw
          (try dsimp only at hSw)
          go_simp
        (try simp only [Act.put, List.setIfInBounds_toArray, List.set_cons_zero, List.set_cons_succ])
        refine Late.take (i := 7) (oi := _) (v := (.pointer (some ⟨rd, 0, none⟩))) rfl (by kernel_rfl) (by kernel_rfl) (by kernel_rfl) (fun _ _ _ h => h) (by kernel_rfl) (Or.inl ⟨by rfl, ?_⟩) (by assumption) ?_
        · intro w' hSw
          (try dsimp only at hSw)
          go_simp
        (try simp only [Act.put, List.setIfInBounds_toArray, List.set_cons_zero, List.set_cons_succ])
        refine Late.take (i := 8) (oi := _) (v := (.slice (some ⟨g, 0, none⟩) len c)) rfl (by kernel_rfl) (by kernel_rfl) (by kernel_rfl) (fun _ _ _ h => h) (by kernel_rfl) (Or.inl ⟨by rfl, ?_⟩) (by assumption) ?_
        · intro w' hSw
          (try dsimp only at hSw)
          go_simp
        (try simp only [Act.put, List.setIfInBounds_toArray, List.set_cons_zero, List.set_cons_succ])
        refine Late.take (i := 9) (oi := _) (v := (.int .i64 k)) rfl (by kernel_rfl) (by kernel_rfl) (by kernel_rfl) (fun _ _ _ h => h) (by kernel_rfl) (Or.inl ⟨by rfl, ?_⟩) (by assumption) ?_
        · intro w' hSw
          (try dsimp only at hSw)
          go_simp
        (try simp only [Act.put, List.setIfInBounds_toArray, List.set_cons_zero, List.set_cons_succ])
        refine Late.take (i := 10) (oi := _) (v := (.pointer (some ⟨g, k * 3, none⟩))) rfl (by kernel_rfl) (by kernel_rfl) (by kernel_rfl) (fun _ _ _ h => h) (by kernel_rfl) (Or.inl ⟨by rfl, ?_⟩) (by assumption) ?_
        · intro w' hSw
          (try dsimp only at hSw)
          go_simp
        (try simp only [Act.put, List.setIfInBounds_toArray, List.set_cons_zero, List.set_cons_succ])
        refine Late.take (i := 11) (oi := _) (v := (.pointer (some ⟨g, k * 3 + 2, none⟩))) rfl (by kernel_rfl) (by kernel_rfl) (by kernel_rfl) (fun _ _ _ h => h) (by kernel_rfl) (Or.inl ⟨by rfl, ?_⟩) (by assumption) ?_
        · intro w' hSw
          (try dsimp only at hSw)
          go_simp
        (try simp only [Act.put, List.setIfInBounds_toArray, List.set_cons_zero, List.set_cons_succ])
        refine Late.take (i := 12) (oi := _) (v := (.slice pl lb cl)) rfl (by kernel_rfl) (by kernel_rfl) (by kernel_rfl) (fun _ _ _ h => h) (by kernel_rfl) (Or.inl ⟨by rfl, ?_⟩) (by assumption) ?_
        · intro w' hSw
          (try dsimp only at hSw)
          go_simp
        (try simp only [Act.put, List.setIfInBounds_toArray, List.set_cons_zero, List.set_cons_succ])
        refine Late.take (i := 14) (oi := _) (v := (.slice pb m cb)) rfl (by kernel_rfl) (by kernel_rfl) (by kernel_rfl) (fun _ _ _ h => h) (by kernel_rfl) (Or.inl ⟨by rfl, ?_⟩) (by assumption) ?_
        · intro w' hSw
          (try dsimp only at hSw)
          go_simp
        (try simp only [Act.put, List.setIfInBounds_toArray, List.set_cons_zero, List.set_cons_succ])
        refine Late.step (i := 13) (o := _) (by kernel_rfl) rfl (fun K hK => ?_)
        go_simp
        refine (HOWN.out _ (by repeat (first | assumption | exact Below.refl _ _ | exact below_drewN _ _ | apply Below.drew))).mono ?_
        rintro e w4 ⟨q, d, rfl, hown4, hb4⟩
        have hbx : Below w3.heap.size w3 w4 := (Below.refl w3.heap.size w3).drew.trans hb4
        obtain ⟨p5, c5, w5, hrun, hown5, hb5⟩ := HAPP.out w4 q d hown4 hbx
        refine hK.out _ _ ?_ (fun hHeld => ?_)
        · exact HS.out _ (by repeat (first | assumption | exact Below.refl _ _ | exact below_drewN _ _ | apply Below.drew))
        clear hK K
        (try simp only [Act.put, List.setIfInBounds_toArray, List.set_cons_zero, List.set_cons_succ])
        refine Late.step (i := 15) (o := _) (by kernel_rfl) rfl (fun K hK => ?_)
        refine step_append_run rfl (.tmp 45) (.tmp 46) 31 rfl (.slice q lb d) (.slice pb m cb) (.slice p5 (lb + m) c5) (by simp [Act.eval]) (by simp [Act.eval]) hrun ?_
        refine hK.out _ _ ?_ (fun hHeld => ?_)
        · exact HS.out _ (by repeat (first | assumption | exact Below.refl _ _ | exact below_drewN _ _ | apply Below.drew))
        clear hK K
        (try simp only [Act.put, List.setIfInBounds_toArray, List.set_cons_zero, List.set_cons_succ])
        have hz5 : w5.frozen? ⟨g, k * 3 + 2, none⟩ = false := (hb5.frozen (p := ⟨g, k * 3 + 2, none⟩) (cell_lt (HS.out _ (Below.refl _ _)).2.2.1)).trans HZ.out
        refine Late.step (i := 16) (o := _) (by kernel_rfl) rfl (fun K hK => ?_)
        go_simp
        refine hK.out _ _ ?_ (fun hHeld => ?_)
        · exact HS.out _ (by repeat (first | assumption | exact Below.refl _ _ | exact below_drewN _ _ | apply Below.drew))
        clear hK K
        (try simp only [Act.put, List.setIfInBounds_toArray, List.set_cons_zero, List.set_cons_succ])
        refine Late.step (i := 17) (o := _) (by kernel_rfl) rfl (fun K hK => ?_)
        go_simp
        refine hK.out _ _ ?_ (fun hHeld => ?_)
        · exact HS.out _ (by repeat (first | assumption | exact Below.refl _ _ | exact below_drewN _ _ | apply Below.drew))
        clear hK K
        (try simp only [Act.put, List.setIfInBounds_toArray, List.set_cons_zero, List.set_cons_succ])
        refine Late.last (L := 18) (o := _) (by kernel_rfl) rfl (by kernel_rfl) (fun K hK => ?_)
        go_simp
        refine hK.out _ _ ?_
        clear hK K
        (try simp only [Act.put, List.setIfInBounds_toArray, List.set_cons_zero, List.set_cons_succ])
        refine Late.done (by kernel_rfl) ?_ _
        have HOWN5 := Lib.hid hown5
        have HB5 := Lib.hid hb5
        clear hown5 hb5 hbx hb4 hown4 hrun hz5 d0 ht1 ht2
        go_wp2_with fail
        go_ret
        unfold RefPost
        rw [HQ.out]
        have hrow5 := (HX3.out.below HB5.out).row
        rw [HAB.out.2.2] at hrow5
        obtain ⟨s1, s2⟩ := hrow5.stored (k * 3 + 2) (.slice p5 (lb + m) c5)
        rw [show cellsF fv lv (Dk.less s).F = cellsF fv lv s.F from rfl, cellsF_set HG.out.rise HATT.out (j := 2) (by decide) (u := .slice p5 (lb + m) c5) (fv' := fv) (lv' := updV lv n.data.toList (.slice p5 (lb + m) c5)) (fun x hx => ⟨rfl, updV_other _ _ hx⟩) (by simp [triV, updV_same])] at s1
        have hfl2 : fastB ⟨f.b ++ ns, f.fast⟩ = fastB f := by
          show (f.b ++ ns).take f.fast = f.b.take f.fast
          rw [List.take_append_of_le_length HFX.out.1]
        have hll2 : looseB ⟨f.b ++ ns, f.fast⟩ = looseB f ++ ns := by
          show (f.b ++ ns).drop f.fast = f.b.drop f.fast ++ ns
          rw [List.drop_append_of_le_length HFX.out.1]
        have hown6 : (w5.setCell ⟨g, k * 3 + 2, none⟩ (.slice p5 (lb + m) c5)).ownsRow w3.heap.size 5 1 (.slice p5 (lb + m) c5) (lb + m) ((looseB f ++ ns).map encU8) :=
          ownsRow_block HOWN5.out fun b hb' => heap_setCell_other _ _ _ _ fun e => by
            have h1 := (HOWN5.out.lt b hb').1
            have h2 := (HX3.out.row.lt g rfl).2
            have e : b = g := e
            omega
        obtain ⟨hx6, ho6⟩ := HX3.out.setRow HB5.out rfl s2 (n := n.data.toList) (f' := ⟨f.b ++ ns, f.fast⟩) (fv' := fv) (lv' := updV lv n.data.toList (.slice p5 (lb + m) c5)) (by rw [HAB.out.2.2]; exact s1) (fun x hx => ⟨rfl, updV_other _ _ hx⟩)
          (by
            rw [hfl2]
            have hh := (HX3.out.below HB5.out).hf _ HFX.out.2
            exact ownsRow_block hh fun b hb' => heap_setCell_other _ _ _ _ fun e => by
              have e : b = g := e
              exact ((HX3.out.below HB5.out).byte_ne hh hb').2 (by rw [e]; rfl))
          (fun b hb' => .inl (HX3.out.rf _ HFX.out.2 b hb'))
          (by
            rw [hll2, updV_same]
            have e : (looseB f ++ ns).length = lb + m := by rw [List.length_append, HAB.out.2.1, HNS.out]
            rw [e]
            exact own_base hown6 fun b _ => Nat.zero_le _)
          (fun b hb' => by rw [updV_same] at hb'; exact .inr (HOWN5.out.lt b hb').1)
        exact ⟨rfl, _, ⟨_, _, _, hx6⟩, HF3.out.trans ho6.fr⟩
  · have k0 : (readE n.data.toList s != 0) = true := by simpa using h0
    have HQ := Lib.hid (append_e (b := ns) (first_append (q := if s.quota - used s < ns.length then 7 else 0) (readE_first n.data.toList s).symm h0) h0)
    rw [if_neg h0]
    clear h0
    generalize readE n.data.toList s = E at *
    go_wp2_with fail
    go_ret
    exact RefPost.err HQ.out H.out HB.out
end
end Go.Proofs.YtjlchphbkmaacaaGreatDoor
