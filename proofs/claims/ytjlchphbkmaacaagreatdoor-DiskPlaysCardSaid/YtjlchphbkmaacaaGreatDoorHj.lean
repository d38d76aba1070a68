/- The reference's Sync. -/
import Derived.Test.YtjlchphbkmaacaaGreatDoorHi
set_option linter.unusedVariables false
set_option linter.unusedSimpArgs false
namespace Go.Proofs.YtjlchphbkmaacaaGreatDoor
open Go.RowKit Go.MapKept Go.ChangeMaps Go.Maps
attribute [local go_sem ↓] Go.wp_at_zero Go.wp_at_succ
open Dk

theorem grown_trans {a b c : World} {row : Option Nat} (h : a.grownBy b row) (k : b.grownBy c row) : a.grownBy c row :=
  ⟨k.os.trans h.os, k.tape.trans h.tape, k.output.trans h.output, Nat.le_trans h.size k.size, fun i hi hne => (k.block i (Nat.lt_of_lt_of_le hi h.size) hne).trans (h.block i hi hne)⟩
theorem own_set {w : World} {B e k : Nat} {v : Value} {n : Nat} {xs : List Value} (h : w.ownsRow B e k v n xs) {a : Addr} (ha : ∀ g, v.ownBlock = some g → g ≠ a.block) (u : Value) : (w.setCell a u).ownsRow B e k v n xs :=
  ownsRow_block h fun g hg => heap_setCell_other _ _ _ _ (ha g hg)

section
variable {σ : Nat → Option Role} {w : World} {rd : Nat} {s : St} {vF : Value} {fv lv : Nm → Value}

set_option maxRecDepth 100000 in
set_option maxHeartbeats 4000000 in
theorem rsync_any (h : RefX σ w rd s vF fv lv) (hg : Fine s) (n : ByteArray) (hn : n.size ≤ maxLen) :
    Calls Tryz.prog 33 #[.pointer (some ⟨rd, 0, none⟩), .string n] w (RefPost σ w rd (sync n.data.toList s)) := by
  have H := Lib.hid h
  have HG := Lib.hid hg
  clear h hg
  go_enter Tryz.func33, Tryz.ntmps33
  go_wp2_with fail
  refine (rfind_any H.out HG.out n hn).mono ?_
  rintro e w1 ⟨rfl, hb⟩
  have HB := Lib.hid hb
  have HX1 := Lib.hid (H.out.below hb)
  clear hb
  by_cases h0 : readE n.data.toList s = 0
  · have H0 := Lib.hid h0
    obtain ⟨f, hf⟩ := readE_get h0
    have HGET := Lib.hid hf
    have HATT := Lib.hid (at_get HG.out.rise hf)
    rw [if_pos h0, h0]
    clear h0 hf
    generalize hki : atI n.data.toList s.F = k at *
    have HKI := Lib.hid hki
    clear hki
    go_wp2_with fail
    refine (rburns_any HX1.out HG.out).mono ?_
    rintro e w3 (⟨h0, rfl, hx, hf⟩ | ⟨h0, rfl, hx, hf⟩)
    · have HX3 := Lib.hid hx
      have HF3 := Lib.hid ((Fr.of_below HB.out).trans hf)
      have HQ := Lib.hid (show sync n.data.toList s = (8, burnt s) from by unfold sync; exact Dk.asked_off H0.out h0)
      clear hx hf h0
      go_wp2_with fail
      go_ret
      unfold RefPost
      rw [HQ.out]
      exact ⟨rfl, σ, ⟨_, _, _, HX3.out⟩, HF3.out⟩
    · have HX3 := Lib.hid hx
      have HF3 := Lib.hid ((Fr.of_below HB.out).trans hf)
      have hq : sync n.data.toList s = (0, { Dk.less s with F := setF n.data.toList ⟨f.b, f.b.length⟩ s.F }) := by
        unfold sync
        rw [Dk.asked_ok H0.out h0]
        have : get n.data.toList (Dk.less s).F = some f := HGET.out
        rw [this]
        rfl
      have HQ := Lib.hid hq
      clear hx hf h0 hq
      obtain ⟨g, c, hv, _, ht1, ht2, hz, _, _⟩ := HX3.out.tri (s := Dk.less s) HATT.out
      subst hv
      have d0 := HX3.out.d0
      have hmem : (n.data.toList, f) ∈ s.F := List.mem_of_getElem? HATT.out
      have hfo := HX3.out.hf _ hmem
      have hlo := HX3.out.hl _ hmem
      have hsz := HG.out.size_le HGET.out
      have hfx := HG.out.fast _ hmem
      simp only at hfo hlo ht1 ht2 hfx
      obtain ⟨pf, cf, ef⟩ := own_slice hfo
      obtain ⟨pl, cl, el⟩ := own_slice hlo
      have hk : k < (Dk.less s).F.length := (List.getElem?_eq_some_iff.1 HATT.out).1
      have hl5 : (Dk.less s).F.length ≤ 512 := HG.out.files
      rw [ef] at ht1 hfo
      rw [el] at ht2 hlo
      have h1 := own_bytes hfo
      have hn1 := own_none hfo
      have h2 := own_bytes hlo
      have hn2 := own_none hlo
      have hfl := fastB_len hfx
      have hll := looseB_len f
      have hlong : (fastB f).length + (looseB f).length ≤ 4194304 := by omega
      have HE := Lib.hid (And.intro ef el)
      have HFX := Lib.hid (And.intro hfx hmem)
      generalize hL : (Dk.less s).F.length = len at *
      generalize hA : (fastB f).length = fa at *
      generalize hB2 : (looseB f).length = lb at *
      have HAB := Lib.hid (And.intro hA (And.intro hB2 hL))
      have hj0 : (0 : Int) ≤ (k : Int) := by omega
      have hjk : (k : Int) < (len : Int) := by omega
      have HZ := Lib.hid (hz (k * 3 + 1))
      have HZ2 := Lib.hid (hz (k * 3 + 2))
      have HS := Lib.hid (show ∀ V, Below w3.heap.size w3 V → V.cell? ⟨rd, 0, none⟩ = some (.slice (some ⟨g, 0, none⟩) len c) ∧ V.cell? ⟨g, k * 3 + 1, none⟩ = some (.slice pf fa cf) ∧ V.cell? ⟨g, k * 3 + 2, none⟩ = some (.slice pl lb cl) ∧ Below w3.heap.size w3 V from
        fun V hV => ⟨(hV.cell (cell_lt d0)).trans d0, (hV.cell (cell_lt ht1)).trans ht1, (hV.cell (cell_lt ht2)).trans ht2, hV⟩)
      have HOWN := Lib.hid (show ∀ V, Below w3.heap.size w3 V → Calls Tryz.prog 26 #[.slice pf fa cf] V (OwnPost V fa (fastB f)) from
        fun V hV => own_any V pf fa cf (fastB f) (h1.keep fun x _ hlt => hV.block _ hlt) hn1 (by omega))
      have HAPP := Lib.hid (show ∀ (w4 : World) (q : Option Addr) (d : Nat), w4.ownsRow w3.heap.size 5 1 (.slice q fa d) (fastB f).length ((fastB f).map encU8) → Below w3.heap.size w3 w4 → ∃ p5 c5 w5, (Builtin.append_ #[31, 31] 31 #[.slice q fa d, .slice pl lb cl]).run Tryz.prog w4 = .ok (.slice p5 (fa + lb) c5) w5 ∧ w5.ownsRow w3.heap.size 5 1 (.slice p5 (fa + lb) c5) (fa + lb) ((fastB f ++ looseB f).map encU8) ∧ Below w3.heap.size w3 w5 from
        fun w4 q d ho hb => own_app h1 h2 hn2 (by omega) (by rw [HAB.out.1] at ho; exact ho) hb _)
      clear hmem hfo hlo hsz hfx ef el hfl hll hL hA hB2 h1 hn1 h2 hn2 hz hlong
      go_wp2_with fail
      go_upto_region 6 with fail
      refine Late.start (fun w' => w'.cell? ⟨rd, 0, none⟩ = some (.slice (some ⟨g, 0, none⟩) len c) ∧ w'.cell? ⟨g, k * 3 + 1, none⟩ = some (.slice pf fa cf) ∧ w'.cell? ⟨g, k * 3 + 2, none⟩ = some (.slice pl lb cl) ∧ Below w3.heap.size w3 w') 25 (by kernel_rfl) ?_ (fun hHeld => ?_)
      · exact HS.out _ (Below.refl _ _).drew
      refine Late.take (i := 0) (oi := _) (v := (.pointer (some ⟨rd, 0, none⟩))) rfl (by kernel_rfl) (by kernel_rfl) (by kernel_rfl) (fun _ _ _ h => h) (by kernel_rfl) (Or.inl ⟨by rfl, ?_⟩) (by assumption) ?_
      · intro w' hSw
        (try dsimp only at hSw)
        go_simp
      (try simp only [Act.put, List.setIfInBounds_toArray, List.set_cons_zero, List.set_cons_succ])
      refine Late.take (i := 1) (oi := _) (v := (.pointer (some ⟨rd, 0, none⟩))) rfl (by kernel_rfl) (by kernel_rfl) (by kernel_rfl) (fun _ _ _ h => h) (by kernel_rfl) (Or.inl ⟨by rfl, ?_⟩) (by assumption) ?_
      · intro w' hSw
        (try dsimp only at hSw)
        go_simp
      (try simp only [Act.put, List.setIfInBounds_toArray, List.set_cons_zero, List.set_cons_succ])
      refine Late.take (i := 2) (oi := _) (v := (.pointer (some ⟨rd, 0, none⟩))) rfl (by kernel_rfl) (by kernel_rfl) (by kernel_rfl) (fun _ _ _ h => h) (by kernel_rfl) (Or.inl ⟨by rfl, ?_⟩) (by assumption) ?_
      · intro w' hSw
        (try dsimp only at hSw)
        go_simp
      (try simp only [Act.put, List.setIfInBounds_toArray, List.set_cons_zero, List.set_cons_succ])
      refine Late.take (i := 3) (oi := _) (v := (.slice (some ⟨g, 0, none⟩) len c)) rfl (by kernel_rfl) (by kernel_rfl) (by kernel_rfl) (fun _ _ _ h => h) (by kernel_rfl) (Or.inl ⟨by rfl, ?_⟩) (by assumption) ?_
      · intro w' hSw
        (try dsimp only at hSw)
        go_simp
      (try simp only [Act.put, List.setIfInBounds_toArray, List.set_cons_zero, List.set_cons_succ])
      refine Late.take (i := 4) (oi := _) (v := (.int .i64 k)) rfl (by kernel_rfl) (by kernel_rfl) (by kernel_rfl) (fun _ _ _ h => h) (by kernel_rfl) (Or.inl ⟨by rfl, ?_⟩) (by assumption) ?_
      · intro w' hSw
        (try dsimp only at hSw)
        go_simp
      (try simp only [Act.put, List.setIfInBounds_toArray, List.set_cons_zero, List.set_cons_succ])
      refine Late.take (i := 5) (oi := _) (v := (.pointer (some ⟨rd, 0, none⟩))) rfl (by kernel_rfl) (by kernel_rfl) (by kernel_rfl) (fun _ _ _ h => h) (by kernel_rfl) (Or.inl ⟨by rfl, ?_⟩) (by assumption) ?_
      · intro w' hSw
        (try dsimp only at hSw)
        go_simp
      (try simp only [Act.put, List.setIfInBounds_toArray, List.set_cons_zero, List.set_cons_succ])
      refine Late.take (i := 6) (oi := _) (v := (.pointer (some ⟨rd, 0, none⟩))) rfl (by kernel_rfl) (by kernel_rfl) (by kernel_rfl) (fun _ _ _ h => h) (by kernel_rfl) (Or.inl ⟨by rfl, ?_⟩) (by assumption) ?_
      · intro w' hSw
        (try dsimp only at hSw)
        go_simp
      (try simp only [Act.put, List.setIfInBounds_toArray, List.set_cons_zero, List.set_cons_succ])
      refine Late.take (i := 7) (oi := _) (v := (.pointer (some ⟨rd, 0, none⟩))) rfl (by kernel_rfl) (by kernel_rfl) (by kernel_rfl) (fun _ _ _ h => h) (by kernel_rfl) (Or.inl ⟨by rfl, ?_⟩) (by assumption) ?_
      · intro w' hSw
        (try dsimp only at hSw)
        go_simp
      (try simp only [Act.put, List.setIfInBounds_toArray, List.set_cons_zero, List.set_cons_succ])
      refine Late.take (i := 8) (oi := _) (v := (.slice (some ⟨g, 0, none⟩) len c)) rfl (by kernel_rfl) (by kernel_rfl) (by kernel_rfl) (fun _ _ _ h => h) (by kernel_rfl) (Or.inl ⟨by rfl, ?_⟩) (by assumption) ?_
      · intro w' hSw
        (try dsimp only at hSw)
        go_simp
      (try simp only [Act.put, List.setIfInBounds_toArray, List.set_cons_zero, List.set_cons_succ])
      refine Late.take (i := 9) (oi := _) (v := (.int .i64 k)) rfl (by kernel_rfl) (by kernel_rfl) (by kernel_rfl) (fun _ _ _ h => h) (by kernel_rfl) (Or.inl ⟨by rfl, ?_⟩) (by assumption) ?_
      · intro w' hSw
        (try dsimp only at hSw)
        go_simp
      (try simp only [Act.put, List.setIfInBounds_toArray, List.set_cons_zero, List.set_cons_succ])
      refine Late.take (i := 10) (oi := _) (v := (.pointer (some ⟨g, k * 3, none⟩))) rfl (by kernel_rfl) (by kernel_rfl) (by kernel_rfl) (fun _ _ _ h => h) (by kernel_rfl) (Or.inl ⟨by rfl, ?_⟩) (by assumption) ?_
      · intro w' hSw
        (try dsimp only at hSw)
        go_simp
      (try simp only [Act.put, List.setIfInBounds_toArray, List.set_cons_zero, List.set_cons_succ])
      refine Late.take (i := 11) (oi := _) (v := (.pointer (some ⟨g, k * 3 + 1, none⟩))) rfl (by kernel_rfl) (by kernel_rfl) (by kernel_rfl) (fun _ _ _ h => h) (by kernel_rfl) (Or.inl ⟨by rfl, ?_⟩) (by assumption) ?_
      · intro w' hSw
        (try dsimp only at hSw)
        go_simp
      (try simp only [Act.put, List.setIfInBounds_toArray, List.set_cons_zero, List.set_cons_succ])
      refine Late.take (i := 12) (oi := _) (v := (.slice pf fa cf)) rfl (by kernel_rfl) (by kernel_rfl) (by kernel_rfl) (fun _ _ _ h => h) (by kernel_rfl) (Or.inl ⟨by rfl, ?_⟩) (by assumption) ?_
      · intro w' hSw
        (try dsimp only at hSw)
        go_simp
      (try simp only [Act.put, List.setIfInBounds_toArray, List.set_cons_zero, List.set_cons_succ])
      refine Late.take (i := 14) (oi := _) (v := (.pointer (some ⟨rd, 0, none⟩))) rfl (by kernel_rfl) (by kernel_rfl) (by kernel_rfl) (fun _ _ _ h => h) (by kernel_rfl) (Or.inl ⟨by rfl, ?_⟩) (by assumption) ?_
      · intro w' hSw
        (try dsimp only at hSw)
        go_simp
      (try simp only [Act.put, List.setIfInBounds_toArray, List.set_cons_zero, List.set_cons_succ])
      refine Late.take (i := 15) (oi := _) (v := (.pointer (some ⟨rd, 0, none⟩))) rfl (by kernel_rfl) (by kernel_rfl) (by kernel_rfl) (fun _ _ _ h => h) (by kernel_rfl) (Or.inl ⟨by rfl, ?_⟩) (by assumption) ?_
      · intro w' hSw
        (try dsimp only at hSw)
        go_simp
      (try simp only [Act.put, List.setIfInBounds_toArray, List.set_cons_zero, List.set_cons_succ])
      refine Late.take (i := 16) (oi := _) (v := (.pointer (some ⟨rd, 0, none⟩))) rfl (by kernel_rfl) (by kernel_rfl) (by kernel_rfl) (fun _ _ _ h => h) (by kernel_rfl) (Or.inl ⟨by rfl, ?_⟩) (by assumption) ?_
      · intro w' hSw
        (try dsimp only at hSw)
        go_simp
      (try simp only [Act.put, List.setIfInBounds_toArray, List.set_cons_zero, List.set_cons_succ])
      refine Late.take (i := 17) (oi := _) (v := (.slice (some ⟨g, 0, none⟩) len c)) rfl (by kernel_rfl) (by kernel_rfl) (by kernel_rfl) (fun _ _ _ h => h) (by kernel_rfl) (Or.inl ⟨by rfl, ?_⟩) (by assumption) ?_
      · intro w' hSw
        (try dsimp only at hSw)
        go_simp
      (try simp only [Act.put, List.setIfInBounds_toArray, List.set_cons_zero, List.set_cons_succ])
      refine Late.take (i := 18) (oi := _) (v := (.int .i64 k)) rfl (by kernel_rfl) (by kernel_rfl) (by kernel_rfl) (fun _ _ _ h => h) (by kernel_rfl) (Or.inl ⟨by rfl, ?_⟩) (by assumption) ?_
      · intro w' hSw
        (try dsimp only at hSw)
        go_simp
      (try simp only [Act.put, List.setIfInBounds_toArray, List.set_cons_zero, List.set_cons_succ])
      refine Late.take (i := 19) (oi := _) (v := (.pointer (some ⟨g, k * 3, none⟩))) rfl (by kernel_rfl) (by kernel_rfl) (by kernel_rfl) (fun _ _ _ h => h) (by kernel_rfl) (Or.inl ⟨by rfl, ?_⟩) (by assumption) ?_
      · intro w' hSw
        (try dsimp only at hSw)
        go_simp
      (try simp only [Act.put, List.setIfInBounds_toArray, List.set_cons_zero, List.set_cons_succ])
      refine Late.take (i := 20) (oi := _) (v := (.pointer (some ⟨g, k * 3 + 2, none⟩))) rfl (by kernel_rfl) (by kernel_rfl) (by kernel_rfl) (fun _ _ _ h => h) (by kernel_rfl) (Or.inl ⟨by rfl, ?_⟩) (by assumption) ?_
      · intro w' hSw
        (try dsimp only at hSw)
        go_simp
      (try simp only [Act.put, List.setIfInBounds_toArray, List.set_cons_zero, List.set_cons_succ])
      refine Late.take (i := 21) (oi := _) (v := (.slice pl lb cl)) rfl (by kernel_rfl) (by kernel_rfl) (by kernel_rfl) (fun _ _ _ h => h) (by kernel_rfl) (Or.inl ⟨by rfl, ?_⟩) (by assumption) ?_
      · intro w' hSw
        (try dsimp only at hSw)
        go_simp
      (try simp only [Act.put, List.setIfInBounds_toArray, List.set_cons_zero, List.set_cons_succ])
      refine Late.step (i := 13) (o := _) (by kernel_rfl) rfl (fun K hK => ?_)
      go_simp
      refine (HOWN.out _ (by repeat (first | assumption | exact Below.refl _ _ | exact below_drewN _ _ | apply Below.drew))).mono ?_
      rintro e w4 ⟨q, d, rfl, hown4, hb4⟩
      have hbx : Below w3.heap.size w3 w4 := (Below.refl w3.heap.size w3).drew.trans hb4
      obtain ⟨p5, c5, w5, hrun, hown5, hb5⟩ := HAPP.out w4 q d hown4 hbx
      refine hK.out _ _ ?_ (fun hHeld => ?_)
      · exact HS.out _ (by repeat (first | assumption | exact Below.refl _ _ | exact below_drewN _ _ | apply Below.drew))
      clear hK K
      (try simp only [Act.put, List.setIfInBounds_toArray, List.set_cons_zero, List.set_cons_succ])
      refine Late.step (i := 22) (o := _) (by kernel_rfl) rfl (fun K hK => ?_)
      refine step_append_run rfl (.tmp 33) (.tmp 41) 31 rfl (.slice q fa d) (.slice pl lb cl) (.slice p5 (fa + lb) c5) (by simp [Act.eval]) (by simp [Act.eval]) hrun ?_
      refine hK.out _ _ ?_ (fun hHeld => ?_)
      · exact HS.out _ (by repeat (first | assumption | exact Below.refl _ _ | exact below_drewN _ _ | apply Below.drew))
      clear hK K
      (try simp only [Act.put, List.setIfInBounds_toArray, List.set_cons_zero, List.set_cons_succ])
      have hz5 : w5.frozen? ⟨g, k * 3 + 1, none⟩ = false := (hb5.frozen (p := ⟨g, k * 3 + 1, none⟩) (cell_lt (HS.out _ (Below.refl _ _)).2.1)).trans HZ.out
      refine Late.step (i := 23) (o := _) (by kernel_rfl) rfl (fun K hK => ?_)
      go_simp
      refine hK.out _ _ ?_ (fun hHeld => ?_)
      · exact HS.out _ (by repeat (first | assumption | exact Below.refl _ _ | exact below_drewN _ _ | apply Below.drew))
      clear hK K
      (try simp only [Act.put, List.setIfInBounds_toArray, List.set_cons_zero, List.set_cons_succ])
      refine Late.step (i := 24) (o := _) (by kernel_rfl) rfl (fun K hK => ?_)
      go_simp
      refine hK.out _ _ ?_ (fun hHeld => ?_)
      · exact HS.out _ (by repeat (first | assumption | exact Below.refl _ _ | exact below_drewN _ _ | apply Below.drew))
      clear hK K
      (try simp only [Act.put, List.setIfInBounds_toArray, List.set_cons_zero, List.set_cons_succ])
      refine Late.last (L := 25) (o := _) (by kernel_rfl) rfl (by kernel_rfl) (fun K hK => ?_)
      go_simp
      refine hK.out _ _ ?_
      clear hK K
      (try simp only [Act.put, List.setIfInBounds_toArray, List.set_cons_zero, List.set_cons_succ])
      refine Late.done (by kernel_rfl) ?_ _
      have HOWN5 := Lib.hid hown5
      have HB5 := Lib.hid hb5
      have hS5 := HS.out _ hb5
      have hgrd : g ≠ rd := fun e => HX3.out.row_ne (by rw [← e]; rfl)
      have d6 : (w5.setCell ⟨g, k * 3 + 1, none⟩ (.slice p5 (fa + lb) c5)).cell? ⟨rd, 0, none⟩ = some (.slice (some ⟨g, 0, none⟩) len c) := by
        rw [cell_setRd (fun e => hgrd e.symm)]
        exact hS5.1
      have d7 : (w5.setCell ⟨g, k * 3 + 1, none⟩ (.slice p5 (fa + lb) c5)).cell? ⟨g, k * 3 + 2, none⟩ = some (.slice pl lb cl) := by
        rw [World.cell?_setCell_other _ _ _ _ (by intro e; simp [Addr.mk.injEq] at e)]
        exact hS5.2.2.1
      have z7 : (w5.setCell ⟨g, k * 3 + 1, none⟩ (.slice p5 (fa + lb) c5)).frozen? ⟨g, k * 3 + 2, none⟩ = false := by
        rw [World.frozen?_setCell]
        exact (hb5.frozen (p := ⟨g, k * 3 + 2, none⟩) (cell_lt (HS.out _ (Below.refl _ _)).2.2.1)).trans HZ2.out
      clear hown5 hb5 hbx hb4 hown4 hrun hz5 d0 ht1 ht2 hS5 hgrd
      go_wp2_with fail
      go_ret
      unfold RefPost
      rw [HQ.out]
      have hrow5 := (HX3.out.below HB5.out).row
      rw [HAB.out.2.2] at hrow5
      obtain ⟨s1, s2⟩ := hrow5.stored (k * 3 + 1) (.slice p5 (fa + lb) c5)
      rw [show cellsF fv lv (Dk.less s).F = cellsF fv lv s.F from rfl, cellsF_set HG.out.rise HATT.out (j := 1) (by decide) (u := .slice p5 (fa + lb) c5) (fv' := updV fv n.data.toList (.slice p5 (fa + lb) c5)) (lv' := lv) (fun x hx => ⟨updV_other _ _ hx, rfl⟩) (by simp [triV, updV_same])] at s1
      obtain ⟨s3, s4⟩ := s1.stored (k * 3 + 2) (.slice none 0 0)
      rw [cellsF_set HG.out.rise HATT.out (j := 2) (by decide) (u := .slice none 0 0) (fv' := updV fv n.data.toList (.slice p5 (fa + lb) c5)) (lv' := updV lv n.data.toList (.slice none 0 0)) (fun x hx => ⟨rfl, updV_other _ _ hx⟩) (by simp [triV, updV_same])] at s3
      have hfl2 : fastB ⟨f.b, f.b.length⟩ = f.b := List.take_of_length_le (Nat.le_refl _)
      have hll2 : looseB ⟨f.b, f.b.length⟩ = [] := List.drop_of_length_le (Nat.le_refl _)
      have hne : ∀ b, Value.ownBlock (.slice p5 (fa + lb) c5) = some b → b ≠ g := fun b hb' e => by
        have h1 := (HOWN5.out.lt b hb').1
        have h2 := (HX3.out.row.lt g rfl).2
        omega
      have hown6 := own_set (own_set HOWN5.out (a := ⟨g, k * 3 + 1, none⟩) hne (.slice p5 (fa + lb) c5)) (a := ⟨g, k * 3 + 2, none⟩) hne (.slice none 0 0)
      obtain ⟨hx6, ho6⟩ := HX3.out.setRow HB5.out rfl (grown_trans s2 s4) (n := n.data.toList) (f' := ⟨f.b, f.b.length⟩) (fv' := updV fv n.data.toList (.slice p5 (fa + lb) c5)) (lv' := updV lv n.data.toList (.slice none 0 0)) (by rw [HAB.out.2.2]; exact s3) (fun x hx => ⟨updV_other _ _ hx, updV_other _ _ hx⟩)
        (by
          rw [hfl2, updV_same]
          have e : f.b.length = fa + lb := by rw [← HAB.out.1, ← HAB.out.2.1, ← List.length_append, fast_loose]
          rw [e]
          rw [fast_loose] at hown6
          exact own_base hown6 fun b _ => Nat.zero_le _)
        (fun b hb' => by rw [updV_same] at hb'; exact .inr (HOWN5.out.lt b hb').1)
        (by rw [hll2, updV_same]; exact World.ownsRow_nil _ _ _ _)
        (fun b hb' => by rw [updV_same] at hb'; cases hb')
      exact ⟨rfl, _, ⟨_, _, _, hx6⟩, HF3.out.trans ho6.fr⟩
  · have k0 : (readE n.data.toList s != 0) = true := by simpa using h0
    have HQ := Lib.hid (show sync n.data.toList s = (readE n.data.toList s, s) from by unfold sync; exact Dk.asked_err h0)
    rw [if_neg h0]
    clear h0
    generalize readE n.data.toList s = E at *
    go_wp2_with fail
    go_ret
    exact RefPost.err HQ.out H.out HB.out
end
end Go.Proofs.YtjlchphbkmaacaaGreatDoor
