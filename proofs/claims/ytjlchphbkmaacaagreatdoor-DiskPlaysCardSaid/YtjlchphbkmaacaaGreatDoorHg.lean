/- The reference's Create, Remove, Rename, Read. -/
import Derived.Test.YtjlchphbkmaacaaGreatDoorHf
import Derived.Deep.RegionHeld3
set_option linter.unusedVariables false
set_option linter.unusedSimpArgs false
namespace Go.Proofs.YtjlchphbkmaacaaGreatDoor
open Go.RowKit Go.MapKept Go.ChangeMaps Go.Maps
attribute [local go_sem ↓] Go.wp_at_zero Go.wp_at_succ
open Dk

theorem ba_mk (n : ByteArray) : (⟨n.data.toList.toArray⟩ : ByteArray) = n := by
  cases n
  simp

section
variable {σ : Nat → Option Role} {w : World} {rd : Nat} {s : St} {vF : Value} {fv lv : Nm → Value}

/-- Some of the files take the place of all. -/
theorem Dk.RefX.setDel (h : RefX σ w rd s vF fv lv) {w2 : World} (hb : Below w.heap.size w w2) {B m c : Nat} {p : Option Addr} {F' : List (Nm × Fi)} (hrow : w2.ownsRow B 80 3 (.slice p m c) F'.length (cellsF fv lv F')) (hB : w.heap.size ≤ B) (hF : ∀ x ∈ F', x ∈ s.F) :
    RefX (newσ σ w (w2.setCell ⟨rd, 0, none⟩ (.slice p m c))) (w2.setCell ⟨rd, 0, none⟩ (.slice p m c)) rd { s with F := F' } (.slice p m c) fv lv ∧ Only σ w (w2.setCell ⟨rd, 0, none⟩ (.slice p m c)) := by
  have hrdlt := h.rdlt
  have ho : Only σ w (w2.setCell ⟨rd, 0, none⟩ (.slice p m c)) := (Only.of_below hb).setCell (.inl h.hrd) _
  refine ⟨h.toX ho ?_ ?_ (fun g hg => .inr ?_) (fun x hx => ⟨?_, fun g hg => .inl (h.rf x (hF x hx) g hg)⟩) (fun x hx => ⟨?_, fun g hg => .inl (h.rl x (hF x hx) g hg)⟩), ho⟩
  · rw [heap_setCell_same w2 rd 0 _ _ _ (h.below hb).hd]
    rfl
  · refine ownsRow_block (own_base3 hrow fun g hg => Nat.zero_le _) fun g hg => heap_setCell_other _ _ _ _ fun e => ?_
    have := (hrow.lt g hg).1
    have e : g = rd := e
    omega
  · exact Nat.le_trans hB (hrow.lt g hg).1
  · exact ownsRow_block ((h.below hb).hf x (hF x hx)) fun g hg => heap_setCell_other _ _ _ _ fun e => ((h.below hb).byte_ne ((h.below hb).hf x (hF x hx)) hg).1 e
  · exact ownsRow_block ((h.below hb).hl x (hF x hx)) fun g hg => heap_setCell_other _ _ _ _ fun e => ((h.below hb).byte_ne ((h.below hb).hl x (hF x hx)) hg).1 e

theorem create_e {n : Nm} {s : St} {z : Int} (h : first [answers s, if may n then 0 else 1, if (get n s.F).isSome then 9 else 0, if 512 ≤ s.F.length then 7 else 0] = z) (hz : z ≠ 0) : create n s = (z, s) := by
  unfold create; rw [Dk.asked_err (by rw [h]; exact hz), h]
theorem RefPost.err {r : Int × St} {z : Int} (hr : r = (z, s)) {w' : World} (h : RefX σ w rd s vF fv lv) (hb : Below w.heap.size w w') : RefPost σ w rd r (.returned (.int .i64 z)) w' := by
  subst hr
  exact ⟨rfl, σ, ⟨_, _, _, h.below hb⟩, Fr.of_below hb⟩

set_option maxRecDepth 100000 in
set_option maxHeartbeats 1000000 in
theorem rcreate_any (h : RefX σ w rd s vF fv lv) (hg : Fine s) (n : ByteArray) (hn : n.size ≤ maxLen) :
    Calls Tryz.prog 31 #[.pointer (some ⟨rd, 0, none⟩), .string n] w (RefPost σ w rd (create n.data.toList s)) := by
  have d3 := h.d3
  have H := Lib.hid h
  have HG := Lib.hid hg
  clear h hg
  cases ho : s.off
  · rw [ho] at d3
    have HO := Lib.hid (show answers s = 0 from by unfold answers; rw [ho]; rfl)
    clear ho
    cases hm : Dk.may n.data.toList
    · have HM := Lib.hid hm
      clear hm
      go_enter Tryz.func31, Tryz.ntmps31
      go_wp2_with fail
      refine (rmay_any n w hn).mono ?_
      rintro e w1 ⟨rfl, rfl⟩
      rw [HM.out]
      go_wp2_with fail
      go_ret
      exact RefPost.err (create_e (by rw [HO.out, HM.out]; rfl) (by decide)) H.out (Below.refl _ _)
    · have HM := Lib.hid hm
      clear hm
      go_enter Tryz.func31, Tryz.ntmps31
      go_wp2_with fail
      refine (rmay_any n w hn).mono ?_
      rintro e w1 ⟨rfl, rfl⟩
      rw [HM.out]
      go_wp2_with fail
      refine (at_any H.out HG.out n).mono ?_
      rintro e w2 ⟨rfl, hb⟩
      have HB := Lib.hid hb
      clear hb
      cases hs : (get n.data.toList s.F).isSome
      · have HS := Lib.hid hs
        clear hs
        obtain ⟨p, c, rfl⟩ := H.out.form
        have HX2 := Lib.hid (H.out.below HB.out)
        have d0 := HX2.out.d0
        have hlen := HG.out.files
        generalize hl : s.F.length = len at *
        by_cases h5 : 512 ≤ len
        · have HL := Lib.hid (show 512 ≤ s.F.length by omega)
          have k5 : decide (512 ≤ len) = true := by rw [decide_eq_true_iff]; exact h5
          have HLL := Lib.hid hl
          clear hl
          go_wp2_with fail
          go_ret
          exact RefPost.err (create_e (by rw [HO.out, HM.out, HS.out, if_pos HL.out]; rfl) (by decide)) H.out HB.out
        · have HL := Lib.hid (show ¬ 512 ≤ s.F.length by omega)
          have HLL := Lib.hid hl
          clear hl
          go_wp2_with fail
          refine (rburns_any HX2.out HG.out).mono ?_
          rintro e w3 (⟨h0, rfl, hx, hf⟩ | ⟨h0, rfl, hx, hf⟩)
          · have HX3 := Lib.hid hx
            have HF3 := Lib.hid ((Fr.of_below HB.out).trans hf)
            have HQ := Lib.hid (show create n.data.toList s = (8, burnt s) from by unfold create; exact Dk.asked_off (by rw [HO.out, HM.out, HS.out, if_neg HL.out]; rfl) h0)
            clear hx hf h0 d0
            go_wp2_with fail
            go_ret
            unfold RefPost
            rw [HQ.out]
            exact ⟨rfl, σ, ⟨_, _, _, HX3.out⟩, HF3.out⟩
          · have HX3 := Lib.hid hx
            have HF3 := Lib.hid ((Fr.of_below HB.out).trans hf)
            have HQ := Lib.hid (show create n.data.toList s = (0, { Dk.less s with F := put n.data.toList ⟨[], 0⟩ s.F }) from by unfold create; exact Dk.asked_ok (by rw [HO.out, HM.out, HS.out, if_neg HL.out]; rfl) h0)
            clear hx hf h0 d0
            have hlay := rlay_any HX3.out HG.out.less n.data.toList ⟨[], 0⟩ (.slice none 0 0) (.slice none 0 0) (World.ownsRow_nil _ _ _ _) (World.ownsRow_nil _ _ _ _) (fun g hg => by cases hg) (fun g hg => by cases hg)
            rw [ba_mk] at hlay
            have HLAY := Lib.hid hlay
            clear hlay
            go_wp2_with fail
            refine HLAY.out.mono ?_
            rintro e w4 ⟨rfl, σ', hr, hf4⟩
            have HR := Lib.hid hr
            have HF4 := Lib.hid hf4
            clear hr hf4 HLAY
            go_wp2_with fail
            go_ret
            unfold RefPost
            rw [HQ.out]
            exact ⟨rfl, σ', HR.out, HF3.out.trans HF4.out⟩
      · have HS := Lib.hid hs
        clear hs
        go_wp2_with fail
        go_ret
        exact RefPost.err (create_e (by rw [HO.out, HM.out, HS.out]; rfl) (by decide)) H.out HB.out
  · rw [ho] at d3
    have HO := Lib.hid (show answers s = 8 from by unfold answers; rw [ho]; rfl)
    clear ho
    go_enter Tryz.func31, Tryz.ntmps31
    go_wp2_with fail
    go_ret
    exact RefPost.err (create_e (by rw [HO.out]; rfl) (by decide)) H.out (Below.refl _ _)

/-- What is asked first, and what is there. -/
theorem readE_first (n : Nm) (s : St) : readE n s = first [answers s, there n s] := rfl
set_option maxRecDepth 100000 in
set_option maxHeartbeats 1000000 in
theorem rremove_any (h : RefX σ w rd s vF fv lv) (hg : Fine s) (n : ByteArray) (hn : n.size ≤ maxLen) :
    Calls Tryz.prog 36 #[.pointer (some ⟨rd, 0, none⟩), .string n] w (RefPost σ w rd (remove n.data.toList s)) := by
  have H := Lib.hid h
  have HG := Lib.hid hg
  clear h hg
  go_enter Tryz.func36, Tryz.ntmps36
  go_wp2_with fail
  refine (rfind_any H.out HG.out n hn).mono ?_
  rintro e w2 ⟨rfl, hb⟩
  have HB := Lib.hid hb
  have HX2 := Lib.hid (H.out.below hb)
  clear hb
  by_cases h0 : readE n.data.toList s = 0
  · have H0 := Lib.hid h0
    rw [if_pos h0, h0]
    clear h0
    generalize atI n.data.toList s.F = k at *
    go_wp2_with fail
    refine (rburns_any HX2.out HG.out).mono ?_
    rintro e w3 (⟨h0, rfl, hx, hf⟩ | ⟨h0, rfl, hx, hf⟩)
    · have HX3 := Lib.hid hx
      have HF3 := Lib.hid ((Fr.of_below HB.out).trans hf)
      have HQ := Lib.hid (show remove n.data.toList s = (8, burnt s) from by unfold remove; exact Dk.asked_off H0.out h0)
      clear hx hf h0
      go_wp2_with fail
      go_ret
      unfold RefPost
      rw [HQ.out]
      exact ⟨rfl, σ, ⟨_, _, _, HX3.out⟩, HF3.out⟩
    · have HX3 := Lib.hid hx
      have HF3 := Lib.hid ((Fr.of_below HB.out).trans hf)
      have HQ := Lib.hid (show remove n.data.toList s = (0, { Dk.less s with F := del n.data.toList s.F }) from by unfold remove; exact Dk.asked_ok H0.out h0)
      clear hx hf h0
      go_wp2_with fail
      refine (rwithout_any HX3.out HG.out.less n).mono ?_
      rintro e w4 ⟨p, c, rfl, hrow, hb4⟩
      obtain ⟨hx5, ho5⟩ := HX3.out.setDel hb4 hrow (Nat.le_refl _) fun x hx => (mem_del.1 hx).1
      have d4 := (HX3.out.below hb4).d0
      have z4 := (HX3.out.below hb4).fz 0
      have HX5 := Lib.hid hx5
      have HO5 := Lib.hid ho5
      clear hx5 ho5 hrow hb4
      go_wp2_with fail
      go_ret
      unfold RefPost
      rw [HQ.out]
      exact ⟨rfl, _, ⟨_, _, _, HX5.out⟩, HF3.out.trans HO5.out.fr⟩
  · have k0 : (readE n.data.toList s != 0) = true := by simpa using h0
    have HQ := Lib.hid (show remove n.data.toList s = (readE n.data.toList s, s) from by unfold remove; exact Dk.asked_err h0)
    rw [if_neg h0]
    clear h0
    generalize readE n.data.toList s = E at *
    go_wp2_with fail
    go_ret
    exact RefPost.err HQ.out H.out HB.out
end
end Go.Proofs.YtjlchphbkmaacaaGreatDoor
