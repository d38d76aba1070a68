/- The reference's burns, find, Loose, Names, SetQuota, SetFuse. -/
import Derived.Test.YtjlchphbkmaacaaGreatDoorHc
import Derived.Test.YtjlchphbkmaacaaGreatDoorPu
set_option linter.unusedVariables false
set_option linter.unusedSimpArgs false
namespace Go.Proofs.YtjlchphbkmaacaaGreatDoor
open Go.RowKit Go.MapKept Go.ChangeMaps Go.Maps
attribute [local go_sem ↓] Go.wp_at_zero Go.wp_at_succ
open Dk

section
variable {σ : Nat → Option Role} {w : World} {rd : Nat} {s : St} {vF : Value} {fv lv : Nm → Value}

/-- A number, or whether it is on, is set. -/
theorem Dk.RefX.upd (h : RefX σ w rd s vF fv lv) (i : Nat) (v : Value) (s' : St) (hcs : (#[vF, .int .i64 s.quota, .int .i64 s.fuse, .bool s.off] : Array Value).setIfInBounds i v = #[vF, .int .i64 s'.quota, .int .i64 s'.fuse, .bool s'.off]) (hF : s'.F = s.F) :
    RefX σ (w.setCell ⟨rd, i, none⟩ v) rd s' vF fv lv where
  lt := fun b r e => by rw [World.size_setCell]; exact h.lt b r e
  hrd := h.hrd
  hd := by rw [heap_setCell_same w rd i _ _ v h.hd, hcs]
  row := by rw [hF]; exact ownsRow_block h.row fun g hg => heap_setCell_other w _ g v (fun e => h.row_ne (by rw [hg, e]))
  rr := h.rr
  hf := fun x hx => by rw [hF] at hx; exact ownsRow_block (h.hf x hx) fun g hg => heap_setCell_other w _ g v (h.byte_ne (h.hf x hx) hg).1
  hl := fun x hx => by rw [hF] at hx; exact ownsRow_block (h.hl x hx) fun g hg => heap_setCell_other w _ g v (h.byte_ne (h.hl x hx) hg).1
  rf := fun x hx => by rw [hF] at hx; exact h.rf x hx
  rl := fun x hx => by rw [hF] at hx; exact h.rl x hx
theorem Dk.Fr.cell {w' : World} {a : Addr} (ha : ∃ r, σ a.block = some r) (v : Value) : Fr σ σ w (w.setCell a v) :=
  ⟨rfl, rfl, rfl, by rw [World.size_setCell]; exact Nat.le_refl _, fun b hb hs => ⟨Below.heap_setCell w a v b (fun e => by
    obtain ⟨r, e2⟩ := ha
    rw [← e, hs] at e2
    cases e2), hs⟩⟩

def RBurnPost (σ : Nat → Option Role) (w : World) (rd : Nat) (s : St) (vF : Value) (fv lv : Nm → Value) (e : Ending) (w' : World) : Prop :=
  (s.fuse = 0 ∧ e = .returned (.int .i64 8) ∧ RefX σ w' rd (burnt s) vF fv lv ∧ Fr σ σ w w') ∨ (s.fuse ≠ 0 ∧ e = .returned (.int .i64 0) ∧ RefX σ w' rd (Dk.less s) vF fv lv ∧ Fr σ σ w w')
theorem rburns_any (h : RefX σ w rd s vF fv lv) (hg : Fine s) :
    Calls Tryz.prog 58 #[.pointer (some ⟨rd, 0, none⟩)] w (RBurnPost σ w rd s vF fv lv) := by
  have d2 := h.d2
  have d3 := h.d3
  have z2 := h.fz 2
  have z3 := h.fz 3
  have f0 := hg.f0
  have f1 := hg.f1
  have H := Lib.hid h
  clear h
  by_cases h0 : s.fuse = 0
  · have H0 := Lib.hid h0
    rw [h0] at d2
    clear h0 f0 f1
    go_enter Tryz.func58, Tryz.ntmps58
    go_wp2_with fail
    go_ret
    refine .inl ⟨H0.out, rfl, ?_, ?_⟩
    · exact (H.out.upd 3 (.bool true) { s with off := true } rfl rfl).upd 2 (.int .i64 (-1)) (burnt s) rfl rfl
    · exact (Fr.cell (w' := w) (a := ⟨rd, 3, none⟩) H.out.hrd _).trans (Fr.cell (w' := w) (a := ⟨rd, 2, none⟩) H.out.hrd _)
  · have H0 := Lib.hid h0
    have k0 : (s.fuse == 0) = false := beq_eq_false_iff_ne.2 h0
    clear h0
    by_cases h1 : 0 < s.fuse
    · have k1 : decide (s.fuse > 0) = true := by rw [decide_eq_true_iff]; exact h1
      have H1 := Lib.hid h1
      go_enter Tryz.func58, Tryz.ntmps58
      go_wp2_with fail
      go_ret
      refine .inr ⟨H0.out, rfl, ?_, ?_⟩
      · refine H.out.upd 2 (.int .i64 (s.fuse - 1)) (Dk.less s) ?_ rfl
        unfold Dk.less
        rw [if_pos H1.out]
        rfl
      · exact Fr.cell (w' := w) (a := ⟨rd, 2, none⟩) H.out.hrd _
    · have k1 : decide (s.fuse > 0) = false := by rw [decide_eq_false_iff_not]; exact h1
      have H1 := Lib.hid h1
      clear h1
      go_enter Tryz.func58, Tryz.ntmps58
      go_wp2_with fail
      go_ret
      refine .inr ⟨H0.out, rfl, ?_, Fr.refl _ _⟩
      have e : Dk.less s = s := by
        unfold Dk.less
        rw [if_neg (by have := H1.out; omega)]
      rw [e]
      exact H.out

def RFindPost (n : Nm) (w : World) (s : St) (e : Ending) (w' : World) : Prop := e = .returned (.tuple #[.int .i64 (if readE n s = 0 then atI n s.F else 0 : Nat), .int .i64 (readE n s)]) ∧ Below w.heap.size w w'
theorem rfind_any (h : RefX σ w rd s vF fv lv) (hg : Fine s) (n : ByteArray) (hn : n.size ≤ maxLen) :
    Calls Tryz.prog 47 #[.pointer (some ⟨rd, 0, none⟩), .string n] w (RFindPost n.data.toList w s) := by
  have d3 := h.d3
  have H := Lib.hid h
  have HG := Lib.hid hg
  clear h hg
  cases ho : s.off
  · rw [ho] at d3
    have HO := Lib.hid ho
    clear ho
    cases hm : Dk.may n.data.toList
    · have HM := Lib.hid hm
      clear hm
      go_enter Tryz.func47, Tryz.ntmps47
      go_wp2_with fail
      refine (rmay_any n w hn).mono ?_
      rintro e w1 ⟨rfl, rfl⟩
      rw [HM.out]
      go_wp2_with fail
      go_ret2
      have e : readE n.data.toList s = 1 := by unfold readE answers there; rw [HO.out, HM.out]; rfl
      unfold RFindPost
      rw [e]
      exact ⟨rfl, Below.refl _ _⟩
    · have HM := Lib.hid hm
      clear hm
      go_enter Tryz.func47, Tryz.ntmps47
      go_wp2_with fail
      refine (rmay_any n w hn).mono ?_
      rintro e w1 ⟨rfl, rfl⟩
      rw [HM.out]
      go_wp2_with fail
      refine (at_any H.out HG.out n).mono ?_
      rintro e w2 ⟨rfl, hb⟩
      have HB := Lib.hid hb
      clear hb
      cases hs : (get n.data.toList s.F).isSome
      · have HS := Lib.hid hs
        clear hs
        go_wp2_with fail
        go_ret2
        have e : readE n.data.toList s = 6 := by unfold readE answers there; rw [HO.out, HM.out, HS.out]; rfl
        unfold RFindPost
        rw [e]
        exact ⟨rfl, HB.out⟩
      · have HS := Lib.hid hs
        clear hs
        go_wp2_with fail
        go_ret2
        have e : readE n.data.toList s = 0 := by unfold readE answers there; rw [HO.out, HM.out, HS.out]; rfl
        unfold RFindPost
        rw [e]
        exact ⟨rfl, HB.out⟩
  · rw [ho] at d3
    have HO := Lib.hid ho
    clear ho
    go_enter Tryz.func47, Tryz.ntmps47
    go_wp2_with fail
    go_ret2
    have e : readE n.data.toList s = 8 := by unfold readE answers; rw [HO.out]; rfl
    unfold RFindPost
    rw [e]
    exact ⟨rfl, Below.refl _ _⟩

/-- What there is, where it is found. -/
theorem readE_get {n : Nm} {s : St} (h : readE n s = 0) : ∃ f, get n s.F = some f := by
  obtain ⟨f, hf, _⟩ := read_there h
  exact ⟨f, hf⟩

def RLoosePost (w : World) (s : St) (n : Nm) (e : Ending) (w' : World) : Prop := e = .returned (.int .i64 (loose n s)) ∧ Below w.heap.size w w'
theorem rloose_any (h : RefX σ w rd s vF fv lv) (hg : Fine s) (n : ByteArray) (hn : n.size ≤ maxLen) :
    Calls Tryz.prog 14 #[.pointer (some ⟨rd, 0, none⟩), .string n] w (RLoosePost w s n.data.toList) := by
  have H := Lib.hid h
  have HG := Lib.hid hg
  clear h hg
  go_enter Tryz.func14, Tryz.ntmps14
  go_wp2_with fail
  refine (rfind_any H.out HG.out n hn).mono ?_
  rintro e w1 ⟨rfl, hb⟩
  have HX := Lib.hid (H.out.below hb)
  have HB := Lib.hid hb
  clear hb
  by_cases h0 : readE n.data.toList s = 0
  · obtain ⟨f, hf⟩ := readE_get h0
    have hat := at_get HG.out.rise hf
    obtain ⟨g, c, hv, _, _, ht2, _, _, _⟩ := HX.out.tri hat
    subst hv
    have d0 := HX.out.d0
    have hmem := get_mem hf
    obtain ⟨pl, cl, el⟩ := own_slice (HX.out.hl _ hmem)
    rw [el] at ht2
    have hll := looseB_len f
    simp only at ht2 hll
    rw [hll] at ht2
    have hlo : loose n.data.toList s = f.b.length - f.fast := by unfold loose; rw [if_pos h0, hf]; rfl
    have HLO := Lib.hid hlo
    have hak : atI n.data.toList s.F < s.F.length := (List.getElem?_eq_some_iff.1 hat).1
    rw [if_pos h0, h0]
    generalize atI n.data.toList s.F = k at *
    generalize hL : s.F.length = len at *
    have h5 := HG.out.files
    clear hlo hll hmem el hf hat h0 h5 hL
    go_wp2_with fail
    go_ret
    unfold RLoosePost
    rw [HLO.out]
    exact ⟨rfl, HB.out⟩
  · have k0 : (readE n.data.toList s != 0) = true := by simpa using h0
    have hlo : loose n.data.toList s = 0 := by unfold loose; rw [if_neg h0]
    have HLO := Lib.hid hlo
    rw [if_neg h0]
    clear hlo h0
    generalize readE n.data.toList s = E at *
    go_wp2_with fail
    go_ret
    unfold RLoosePost
    rw [HLO.out]
    exact ⟨rfl, HB.out⟩

theorem rquota_any (h : RefX σ w rd s vF fv lv) (k : Int) :
    Calls Tryz.prog 37 #[.pointer (some ⟨rd, 0, none⟩), .int .i64 k] w (RefPost σ w rd (quota k s)) := by
  have d1 := h.d1
  have z1 := h.fz 1
  have H := Lib.hid h
  clear h
  by_cases h0 : k < 0
  · have k0 : decide (k < 0) = true := by rw [decide_eq_true_iff]; exact h0
    have HQ := Lib.hid (show quota k s = (1, s) from by unfold quota; rw [if_pos (.inl h0)])
    clear h0
    go_enter Tryz.func37, Tryz.ntmps37
    go_wp2_with fail
    go_ret
    unfold RefPost
    rw [HQ.out]
    exact ⟨rfl, σ, ⟨_, _, _, H.out⟩, Fr.refl _ _⟩
  · have k0 : decide (k < 0) = false := by rw [decide_eq_false_iff_not]; exact h0
    by_cases h1 : 4194304 < k
    · have k1 : decide (k > 4194304) = true := by rw [decide_eq_true_iff]; exact h1
      have HQ := Lib.hid (show quota k s = (1, s) from by unfold quota; rw [if_pos (.inr h1)])
      clear h0 h1
      go_enter Tryz.func37, Tryz.ntmps37
      go_wp2_with fail
      go_ret
      unfold RefPost
      rw [HQ.out]
      exact ⟨rfl, σ, ⟨_, _, _, H.out⟩, Fr.refl _ _⟩
    · have k1 : decide (k > 4194304) = false := by rw [decide_eq_false_iff_not]; exact h1
      have HQ := Lib.hid (show quota k s = (0, { s with quota := k }) from by unfold quota; rw [if_neg (fun h => h.elim h0 h1)])
      clear h0 h1
      go_enter Tryz.func37, Tryz.ntmps37
      go_wp2_with fail
      go_ret
      unfold RefPost
      rw [HQ.out]
      exact ⟨rfl, σ, ⟨_, _, _, H.out.upd 1 _ { s with quota := k } rfl rfl⟩, Fr.cell (w' := w) (a := ⟨rd, 1, none⟩) H.out.hrd _⟩
theorem rfuse_any (h : RefX σ w rd s vF fv lv) (k : Int) :
    Calls Tryz.prog 38 #[.pointer (some ⟨rd, 0, none⟩), .int .i64 k] w (RefPost σ w rd (fuse k s)) := by
  have d2 := h.d2
  have d3 := h.d3
  have z2 := h.fz 2
  have H := Lib.hid h
  clear h
  cases ho : s.off
  · rw [ho] at d3
    by_cases h0 : k < -1
    · have k0 : decide (k < -1) = true := by rw [decide_eq_true_iff]; exact h0
      have HQ := Lib.hid (show fuse k s = (1, s) from by
        have h : first [answers s, if k < -1 then 1 else 0] = 1 := by unfold answers; rw [ho, if_pos h0]; rfl
        unfold fuse; rw [if_neg (by rw [h]; decide), h])
      clear h0 ho
      go_enter Tryz.func38, Tryz.ntmps38
      go_wp2_with fail
      go_ret
      unfold RefPost
      rw [HQ.out]
      exact ⟨rfl, σ, ⟨_, _, _, H.out⟩, Fr.refl _ _⟩
    · have k0 : decide (k < -1) = false := by rw [decide_eq_false_iff_not]; exact h0
      have HQ := Lib.hid (show fuse k s = (0, { s with fuse := k }) from by
        have h : first [answers s, if k < -1 then 1 else 0] = 0 := by unfold answers; rw [ho, if_neg h0]; rfl
        unfold fuse; rw [if_pos h])
      clear h0 ho
      go_enter Tryz.func38, Tryz.ntmps38
      go_wp2_with fail
      go_ret
      unfold RefPost
      rw [HQ.out]
      exact ⟨rfl, σ, ⟨_, _, _, H.out.upd 2 _ { s with fuse := k } rfl rfl⟩, Fr.cell (w' := w) (a := ⟨rd, 2, none⟩) H.out.hrd _⟩
  · rw [ho] at d3
    have HQ := Lib.hid (show fuse k s = (8, s) from by
      have h : first [answers s, if k < -1 then 1 else 0] = 8 := by unfold answers; rw [ho]; rfl
      unfold fuse; rw [if_neg (by rw [h]; decide), h])
    clear ho
    go_enter Tryz.func38, Tryz.ntmps38
    go_wp2_with fail
    go_ret
    unfold RefPost
    rw [HQ.out]
    exact ⟨rfl, σ, ⟨_, _, _, H.out⟩, Fr.refl _ _⟩
end
end Go.Proofs.YtjlchphbkmaacaaGreatDoor
