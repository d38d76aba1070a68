/- Truncate. -/
import Derived.Test.YtjlchphbkmaacaaGreatDoorEf
set_option linter.unusedVariables false
set_option linter.unusedSimpArgs false
namespace Go.Proofs.YtjlchphbkmaacaaGreatDoor
open Go.RowKit Go.MapKept Go.ChangeMaps Go.Maps
attribute [local go_sem ↓] Go.wp_at_zero Go.wp_at_succ
open Dk

theorem there_zero {n : Nm} {s : St} (h : Dk.there n s = 0) : ∃ f, Dk.get n s.F = some f := by
  unfold Dk.there at h
  split at h
  · split at h
    · rename_i hs
      exact Option.isSome_iff_exists.1 hs
    · cases h
  · cases h

/-- The five questions of Truncate. -/
theorem truncate_first {ρ : Nat → Option Role} {w : World} {bd : Nat} {s : St} {bm : Nat} {blk : Nm → Nat} {dv : Nm → Value} (h : RepX ρ w bd s bm blk dv) (hg : Fine s) {a1 a2 a3 : Addr} {n : ByteArray} (hn : n.size ≤ maxLen) {k : Int} (h1 : w.cell? a1 = some (.int .i64 k)) (h2 : w.cell? a2 = some (.pointer (some ⟨bd, 0, none⟩))) (h3 : w.cell? a3 = some (.string n)) :
    Calls Tryz.prog 43 #[.slice (some ⟨w.heap.size + 1 + 1 + 1 + 1, 0, none⟩) 5 5] (((((w.alloc (.cells #[.bool (decide (k < 0))] 4)).alloc (.cells #[.int .i64 1] 25)).alloc (.cells #[.pointer (some ⟨bd, 0, none⟩)] 24)).alloc (.cells #[.string n] 9)).alloc (.cells #[.func (.func 44) #[.pointer (some ⟨bd, 0, none⟩)] #[], .func (.func 69) #[] #[.pointer (some ⟨w.heap.size, 0, none⟩), .pointer (some ⟨w.heap.size + 1, 0, none⟩)], .func (.func 61) #[] #[.pointer (some ⟨w.heap.size + 1 + 1 + 1, 0, none⟩), .pointer (some ⟨w.heap.size + 1 + 1, 0, none⟩)], .func (.func 56) #[] #[.pointer (some a1), .pointer (some a2), .pointer (some a3)], .func (.func 52) #[.pointer (some ⟨bd, 0, none⟩)] #[]] 72 (0, 0))) (FirstPost (AskedQ ρ w bd s bm blk dv [answers s, if k < 0 then 1 else 0, there n.data.toList s, if (((get n.data.toList s.F).getD ⟨[], 0⟩).b.length : Int) < k then 1 else 0])) := by
  have hb := allocs_below [.cells #[.bool (decide (k < 0))] 4, .cells #[.int .i64 1] 25, .cells #[.pointer (some ⟨bd, 0, none⟩)] 24, .cells #[.string n] 9, .cells #[.func (.func 44) #[.pointer (some ⟨bd, 0, none⟩)] #[], .func (.func 69) #[] #[.pointer (some ⟨w.heap.size, 0, none⟩), .pointer (some ⟨w.heap.size + 1, 0, none⟩)], .func (.func 61) #[] #[.pointer (some ⟨w.heap.size + 1 + 1 + 1, 0, none⟩), .pointer (some ⟨w.heap.size + 1 + 1, 0, none⟩)], .func (.func 56) #[] #[.pointer (some a1), .pointer (some a2), .pointer (some a3)], .func (.func 52) #[.pointer (some ⟨bd, 0, none⟩)] #[]] 72 (0, 0)] w
  have hat := allocs_at [.cells #[.bool (decide (k < 0))] 4, .cells #[.int .i64 1] 25, .cells #[.pointer (some ⟨bd, 0, none⟩)] 24, .cells #[.string n] 9, .cells #[.func (.func 44) #[.pointer (some ⟨bd, 0, none⟩)] #[], .func (.func 69) #[] #[.pointer (some ⟨w.heap.size, 0, none⟩), .pointer (some ⟨w.heap.size + 1, 0, none⟩)], .func (.func 61) #[] #[.pointer (some ⟨w.heap.size + 1 + 1 + 1, 0, none⟩), .pointer (some ⟨w.heap.size + 1 + 1, 0, none⟩)], .func (.func 56) #[] #[.pointer (some a1), .pointer (some a2), .pointer (some a3)], .func (.func 52) #[.pointer (some ⟨bd, 0, none⟩)] #[]] 72 (0, 0)] w
  have hr := h.below hb
  have hbk := hat 4 _ rfl
  have hbs := (Array.getElem?_eq_some_iff.1 hbk).1
  have k1 := cell_of_block (i := 0) (hat 0 _ rfl)
  have k2 := cell_of_block (i := 0) (hat 1 _ rfl)
  have k3 := cell_of_block (i := 0) (hat 2 _ rfl)
  have k4 := cell_of_block (i := 0) (hat 3 _ rfl)
  have h1' := (hb.cell (cell_lt h1)).trans h1
  have h2' := (hb.cell (cell_lt h2)).trans h2
  have h3' := (hb.cell (cell_lt h3)).trans h3
  have hc := first_calls (w.heap.size + 4) [.func (.func 44) #[.pointer (some ⟨bd, 0, none⟩)] #[], .func (.func 69) #[] #[.pointer (some ⟨w.heap.size, 0, none⟩), .pointer (some ⟨w.heap.size + 1, 0, none⟩)], .func (.func 61) #[] #[.pointer (some ⟨w.heap.size + 1 + 1 + 1, 0, none⟩), .pointer (some ⟨w.heap.size + 1 + 1, 0, none⟩)], .func (.func 56) #[] #[.pointer (some a1), .pointer (some a2), .pointer (some a3)], .func (.func 52) #[.pointer (some ⟨bd, 0, none⟩)] #[]]
      (AskedQ ρ _ bd s bm blk dv [answers s, if k < 0 then 1 else 0, there n.data.toList s, if (((get n.data.toList s.F).getD ⟨[], 0⟩).b.length : Int) < k then 1 else 0]) _ hbk (by simp) (by
    have hkz : (if decide (k < 0) = true then (1 : Int) else 0) = if k < 0 then 1 else 0 := by simp only [decide_eq_true_eq]
    refine asks_cons (ask_answers hr) (Below.refl _ _) hbs (fun e0 W1 b1 => ?_) (fun e0 W1 b1 => Proofs.YtjlchphbkmaacaaGreatDoor.asked_err hr b1 e0 (by simp [first, e0]))
    refine asks_cons (ask_wrong k1 k2 (cell_lt k1) (cell_lt k2)) b1 hbs (fun e1 W2 b2 => ?_) (fun e1 W2 b2 => Proofs.YtjlchphbkmaacaaGreatDoor.asked_err hr b2 e1 ?_)
    · rw [hkz] at e1
      refine asks_cons (ask_there hr hn k4 k3 (cell_lt k4) (cell_lt k3)) b2 hbs (fun e2 W3 b3 => ?_) (fun e2 W3 b3 => Proofs.YtjlchphbkmaacaaGreatDoor.asked_err hr b3 e2 ?_)
      · obtain ⟨f, hf⟩ := there_zero e2
        refine asks_cons (n := if (((get n.data.toList s.F).getD ⟨[], 0⟩).b.length : Int) < k then 1 else 0) ⟨_, _, _, rfl, (enters_of Tryz.func56 (by kernel_rfl) rfl) _, fun V hV => truncate1_any (hr.below hV) hg _ _ _ k n hn f ((hV.cell (cell_lt h1')).trans h1') ((hV.cell (cell_lt h2')).trans h2') ((hV.cell (cell_lt h3')).trans h3') hf _ (by rw [hf]; rfl)⟩ b3 hbs (fun e3 W4 b4 => ?_) (fun e3 W4 b4 => Proofs.YtjlchphbkmaacaaGreatDoor.asked_err hr b4 e3 ?_)
        · exact asks_burns hr hg b4 hbs (h.fresh (by omega)) (by simp only [first, e0, e1, e2, e3, if_true])
        · simp only [first, e0, e1, e2, e3, if_true, if_false]
      · simp only [first, e0, e1, e2, if_true, if_false]
    · rw [hkz] at e1 ⊢
      simp only [first, e0, e1, if_true, if_false])
  exact hc.mono fun e W' ⟨m, he, hq⟩ => ⟨m, he, hq.back hb⟩
theorem truncate_first_drew {ρ : Nat → Option Role} {w : World} {bd : Nat} {s : St} {bm : Nat} {blk : Nm → Nat} {dv : Nm → Value} (h : RepX ρ w bd s bm blk dv) (hg : Fine s) {a1 a2 a3 : Addr} {n : ByteArray} (hn : n.size ≤ maxLen) {k : Int} (h1 : w.cell? a1 = some (.int .i64 k)) (h2 : w.cell? a2 = some (.pointer (some ⟨bd, 0, none⟩))) (h3 : w.cell? a3 = some (.string n)) :
    Calls Tryz.prog 43 #[.slice (some ⟨w.heap.size + 1 + 1 + 1 + 1, 0, none⟩) 5 5] (((((w.alloc (.cells #[.bool (decide (k < 0))] 4)).alloc (.cells #[.int .i64 1] 25)).alloc (.cells #[.pointer (some ⟨bd, 0, none⟩)] 24)).alloc (.cells #[.string n] 9)).alloc (.cells #[.func (.func 44) #[.pointer (some ⟨bd, 0, none⟩)] #[], .func (.func 69) #[] #[.pointer (some ⟨w.heap.size, 0, none⟩), .pointer (some ⟨w.heap.size + 1, 0, none⟩)], .func (.func 61) #[] #[.pointer (some ⟨w.heap.size + 1 + 1 + 1, 0, none⟩), .pointer (some ⟨w.heap.size + 1 + 1, 0, none⟩)], .func (.func 56) #[] #[.pointer (some a1), .pointer (some a2), .pointer (some a3)], .func (.func 52) #[.pointer (some ⟨bd, 0, none⟩)] #[]] 72 (0, 0))).drew (FirstPost (AskedQ ρ w bd s bm blk dv [answers s, if k < 0 then 1 else 0, there n.data.toList s, if (((get n.data.toList s.F).getD ⟨[], 0⟩).b.length : Int) < k then 1 else 0])) :=
  (truncate_first (w := w.drew) (h.below (Below.refl w.heap.size w).drew) hg hn h1 h2 h3).mono fun e W' ⟨m, he, hq⟩ => ⟨m, he, hq.back (Below.refl w.heap.size w).drew⟩

set_option maxRecDepth 100000 in
set_option maxHeartbeats 2000000 in
theorem truncate_any {ρ : Nat → Option Role} {w : World} {bd : Nat} {s : St} {bm : Nat} {blk : Nm → Nat} {dv : Nm → Value} (h : RepX ρ w bd s bm blk dv) (hg : Fine s) (n : ByteArray) (hn : n.size ≤ maxLen) (k : Int) :
    Calls Tryz.prog 28 #[.pointer (some ⟨bd, 0, none⟩), .string n, .int .i64 k] w (MethPost ρ w bd (truncate n.data.toList k s)) := by
  have hmf : ∀ (fn : Fn) (first cap : Array Value) (w : World), (Instr.makeFunc fn first cap).run Tryz.prog w = .ok (.func fn first cap) w := fun _ _ _ _ => rfl
  have hb := allocs_below [.cells #[.pointer (some ⟨bd, 0, none⟩)] 24, .cells #[.string n] 9, .cells #[.int .i64 k] 3] w
  have hat := allocs_at [.cells #[.pointer (some ⟨bd, 0, none⟩)] 24, .cells #[.string n] 9, .cells #[.int .i64 k] 3] w
  have p1 : (((w.alloc (.cells #[.pointer (some ⟨bd, 0, none⟩)] 24)).alloc (.cells #[.string n] 9)).alloc (.cells #[.int .i64 k] 3)).cell? ⟨w.heap.size, 0, none⟩ = some (.pointer (some ⟨bd, 0, none⟩)) := cell_of_block (i := 0) (hat 0 _ rfl)
  have p2 : (((w.alloc (.cells #[.pointer (some ⟨bd, 0, none⟩)] 24)).alloc (.cells #[.string n] 9)).alloc (.cells #[.int .i64 k] 3)).cell? ⟨w.heap.size + 1, 0, none⟩ = some (.string n) := cell_of_block (i := 0) (hat 1 _ rfl)
  have p3 : (((w.alloc (.cells #[.pointer (some ⟨bd, 0, none⟩)] 24)).alloc (.cells #[.string n] 9)).alloc (.cells #[.int .i64 k] 3)).cell? ⟨w.heap.size + 1 + 1, 0, none⟩ = some (.int .i64 k) := cell_of_block (i := 0) (hat 2 _ rfl)
  have hb : Below w.heap.size w (((w.alloc (.cells #[.pointer (some ⟨bd, 0, none⟩)] 24)).alloc (.cells #[.string n] 9)).alloc (.cells #[.int .i64 k] 3)) := hb
  have H0 := Lib.hid h
  clear hat h
  go_enter Tryz.func28, Tryz.ntmps28
  go_wp2_with fail
  generalize ((w.alloc (.cells #[.pointer (some ⟨bd, 0, none⟩)] 24)).alloc (.cells #[.string n] 9)).alloc (.cells #[.int .i64 k] 3) = W at *
  have hr := H0.out.below hb
  have HS := Lib.hid (show ∀ V, Below W.heap.size W V → (V.cell? ⟨w.heap.size, 0, none⟩ = some (.pointer (some ⟨bd, 0, none⟩)) ∧ V.cell? ⟨w.heap.size + 1, 0, none⟩ = some (.string n) ∧ V.cell? ⟨w.heap.size + 1 + 1, 0, none⟩ = some (.int .i64 k)) from
    fun V hV => ⟨(hV.cell (cell_lt p1)).trans p1, (hV.cell (cell_lt p2)).trans p2, (hV.cell (cell_lt p3)).trans p3⟩)
  have HSF := Lib.hid (show ∀ V, Fr ρ ρ W V → (V.cell? ⟨w.heap.size, 0, none⟩ = some (.pointer (some ⟨bd, 0, none⟩)) ∧ V.cell? ⟨w.heap.size + 1, 0, none⟩ = some (.string n) ∧ V.cell? ⟨w.heap.size + 1 + 1, 0, none⟩ = some (.int .i64 k)) from fun V hV =>
    ⟨(World.cell?_of_block (w := W) (hV.block w.heap.size (cell_lt p1) (H0.out.fresh (Nat.le_refl _))).1).trans p1, (World.cell?_of_block (w := W) (hV.block (w.heap.size + 1) (cell_lt p2) (H0.out.fresh (by omega))).1).trans p2, (World.cell?_of_block (w := W) (hV.block (w.heap.size + 1 + 1) (cell_lt p3) (H0.out.fresh (by omega))).1).trans p3⟩)
  have HR := Lib.hid hr
  have HB := Lib.hid hb
  have HW := Lib.hid (And.intro p3 (And.intro p1 p2))
  clear hr hb p1 p2 p3
  refine wp_region_held_drew (S := fun w' => w'.cell? ⟨w.heap.size, 0, none⟩ = some (.pointer (some ⟨bd, 0, none⟩)) ∧ w'.cell? ⟨w.heap.size + 1, 0, none⟩ = some (.string n) ∧ w'.cell? ⟨w.heap.size + 1 + 1, 0, none⟩ = some (.int .i64 k)) (by kernel_rfl) ?_ (fun hHeld => ?_)
  · exact HS.out _ (Below.refl _ _).drew
  refine wpAnyH_take (i := 0) (oi := _) (v := (.pointer (some ⟨bd, 0, none⟩))) rfl (by kernel_rfl) (by kernel_rfl) (by kernel_rfl) (fun _ _ _ h => h) (Or.inl ⟨by rfl, ?_⟩) (by assumption) ?_
  · intro w' hSw
    (try dsimp only at hSw)
    go_simp
  (try simp only [Act.put, List.setIfInBounds_toArray, List.set_cons_zero, List.set_cons_succ])
  refine wpAnyH_take (i := 1) (oi := _) (v := (.func (.func 44) #[.pointer (some ⟨bd, 0, none⟩)] #[])) rfl (by kernel_rfl) (by kernel_rfl) (by kernel_rfl) (fun _ _ _ h => h) (Or.inl ⟨by rfl, ?_⟩) (by assumption) ?_
  · intro w' hSw
    (try dsimp only at hSw)
    go_simp
  (try simp only [Act.put, List.setIfInBounds_toArray, List.set_cons_zero, List.set_cons_succ])
  refine wpAnyH_take (i := 2) (oi := _) (v := (.int .i64 k)) rfl (by kernel_rfl) (by kernel_rfl) (by kernel_rfl) (fun _ _ _ h => h) (Or.inl ⟨by rfl, ?_⟩) (by assumption) ?_
  · intro w' hSw
    (try dsimp only at hSw)
    go_simp
  (try simp only [Act.put, List.setIfInBounds_toArray, List.set_cons_zero, List.set_cons_succ])
  refine wpAnyH_take (i := 3) (oi := _) (v := (.bool (decide (k < 0)))) rfl (by kernel_rfl) (by kernel_rfl) (by kernel_rfl) (fun _ _ _ h => h) (Or.inl ⟨by rfl, ?_⟩) (by assumption) ?_
  · intro w' hSw
    (try dsimp only at hSw)
    go_simp
  (try simp only [Act.put, List.setIfInBounds_toArray, List.set_cons_zero, List.set_cons_succ])
  refine wpAnyH_take (i := 5) (oi := _) (v := (.pointer (some ⟨bd, 0, none⟩))) rfl (by kernel_rfl) (by kernel_rfl) (by kernel_rfl) (fun _ _ _ h => h) (Or.inl ⟨by rfl, ?_⟩) (by assumption) ?_
  · intro w' hSw
    (try dsimp only at hSw)
    go_simp
  (try simp only [Act.put, List.setIfInBounds_toArray, List.set_cons_zero, List.set_cons_succ])
  refine wpAnyH_take (i := 6) (oi := _) (v := (.string n)) rfl (by kernel_rfl) (by kernel_rfl) (by kernel_rfl) (fun _ _ _ h => h) (Or.inl ⟨by rfl, ?_⟩) (by assumption) ?_
  · intro w' hSw
    (try dsimp only at hSw)
    go_simp
  (try simp only [Act.put, List.setIfInBounds_toArray, List.set_cons_zero, List.set_cons_succ])
  refine wpAnyH_take (i := 8) (oi := _) (v := (.func (.func 56) #[] #[.pointer (some ⟨w.heap.size + 1 + 1, 0, none⟩), .pointer (some ⟨w.heap.size, 0, none⟩), .pointer (some ⟨w.heap.size + 1, 0, none⟩)])) rfl (by kernel_rfl) (by kernel_rfl) (by kernel_rfl) (fun _ _ _ h => h) (Or.inl ⟨by rfl, ?_⟩) (by assumption) ?_
  · intro w' hSw
    (try dsimp only at hSw)
    go_simp
  (try simp only [Act.put, List.setIfInBounds_toArray, List.set_cons_zero, List.set_cons_succ])
  refine wpAnyH_take (i := 9) (oi := _) (v := (.pointer (some ⟨bd, 0, none⟩))) rfl (by kernel_rfl) (by kernel_rfl) (by kernel_rfl) (fun _ _ _ h => h) (Or.inl ⟨by rfl, ?_⟩) (by assumption) ?_
  · intro w' hSw
    (try dsimp only at hSw)
    go_simp
  (try simp only [Act.put, List.setIfInBounds_toArray, List.set_cons_zero, List.set_cons_succ])
  refine wpAnyH_take (i := 10) (oi := _) (v := (.func (.func 52) #[.pointer (some ⟨bd, 0, none⟩)] #[])) rfl (by kernel_rfl) (by kernel_rfl) (by kernel_rfl) (fun _ _ _ h => h) (Or.inl ⟨by rfl, ?_⟩) (by assumption) ?_
  · intro w' hSw
    (try dsimp only at hSw)
    go_simp
  (try simp only [Act.put, List.setIfInBounds_toArray, List.set_cons_zero, List.set_cons_succ])
  refine wpAnyH_ready (rs := [4]) (by kernel_rfl) (by simp) ?_
  refine AllReadyH.cons (o := _) rfl (fun K hK => ?_) AllReadyH.nil
  go_simp
  refine (wrong_any _ _ _).mono ?_
  rintro e w1 ⟨rfl, rfl⟩
  refine hK.out _ _ ?_ (fun hHeld => ?_)
  · first | exact HSF.out _ (by assumption) | exact HS.out _ (by repeat (first | assumption | exact Below.refl _ _ | apply Below.drew | refine bel_alloc ?_ _))
  clear hK K
  (try simp only [Act.put, List.setIfInBounds_toArray, List.set_cons_zero, List.set_cons_succ])
  refine wpAnyH_ready (rs := [7]) (by kernel_rfl) (by simp) ?_
  refine AllReadyH.cons (o := _) rfl (fun K hK => ?_) AllReadyH.nil
  go_simp
  refine (there_any _ n _ ⟨_, rfl⟩).mono ?_
  rintro e w1 ⟨rfl, rfl⟩
  refine hK.out _ _ ?_ (fun hHeld => ?_)
  · first | exact HSF.out _ (by assumption) | exact HS.out _ (by repeat (first | assumption | exact Below.refl _ _ | apply Below.drew | refine bel_alloc ?_ _))
  clear hK K
  (try simp only [Act.put, List.setIfInBounds_toArray, List.set_cons_zero, List.set_cons_succ])
  refine wpAnyH_ready (rs := [11]) (by kernel_rfl) (by simp) ?_
  refine AllReadyH.cons (o := _) rfl (fun K hK => ?_) AllReadyH.nil
  go_simp
  refine hK.out _ _ ?_ (fun hHeld => ?_)
  · first | exact HSF.out _ (by assumption) | exact HS.out _ (by repeat (first | assumption | exact Below.refl _ _ | apply Below.drew | refine bel_alloc ?_ _))
  clear hK K
  (try simp only [Act.put, List.setIfInBounds_toArray, List.set_cons_zero, List.set_cons_succ])
  refine wpAnyH_ready (rs := [12]) (by kernel_rfl) (by simp) ?_
  refine AllReadyH.cons (o := _) rfl (fun K hK => ?_) AllReadyH.nil
  go_simp
  refine (truncate_first_drew HR.out hg hn HW.out.1 HW.out.2.1 HW.out.2.2).mono ?_
  rintro e w2 ⟨z, rfl, hq⟩
  have hfr : Fr ρ ρ W w2 := hq.1
  have HQ := Lib.hid hq
  clear hq
  refine hK.out _ _ ?_ (fun hHeld => ?_)
  · first | exact HSF.out _ (by assumption) | exact HS.out _ (by repeat (first | assumption | exact Below.refl _ _ | apply Below.drew | refine bel_alloc ?_ _))
  clear hK K
  (try simp only [Act.put, List.setIfInBounds_toArray, List.set_cons_zero, List.set_cons_succ])
  refine wpAnyH_ready (rs := [13]) (by kernel_rfl) (by simp) ?_
  refine AllReadyH.cons (o := _) rfl (fun K hK => ?_) AllReadyH.nil
  go_simp
  refine hK.out _ _ ?_ (fun hHeld => ?_)
  · first | exact HSF.out _ (by assumption) | exact HS.out _ (by repeat (first | assumption | exact Below.refl _ _ | apply Below.drew | refine bel_alloc ?_ _))
  clear hK K
  (try simp only [Act.put, List.setIfInBounds_toArray, List.set_cons_zero, List.set_cons_succ])
  refine wpAnyH_done (by kernel_rfl) ?_ _
  obtain ⟨hfr, hcase⟩ := HQ.out
  clear HQ
  have hS2 := HSF.out w2 hfr
  have hfr2 : Fr ρ ρ w w2 := (Fr.of_below HB.out).trans hfr
  have HF := Lib.hid hfr2
  clear hfr2 hfr
  rcases hcase with ⟨hl, rfl, hr⟩ | ⟨hl, h0, rfl, hr⟩ | ⟨hl, h0, rfl, hr⟩
  · have hne : (first [answers s, if k < 0 then 1 else 0, there n.data.toList s, if (((get n.data.toList s.F).getD ⟨[], 0⟩).b.length : Int) < k then 1 else 0] == 0) = false := by simpa using hl
    have HP := Lib.hid (Dk.asked_err (k := (fun s => { s with F := setF n.data.toList ⟨((get n.data.toList s.F).getD ⟨[], 0⟩).b.take k.toNat, min ((get n.data.toList s.F).getD ⟨[], 0⟩).fast k.toNat⟩ s.F })) (s := s) hl)
    generalize hE : first [answers s, if k < 0 then 1 else 0, there n.data.toList s, if (((get n.data.toList s.F).getD ⟨[], 0⟩).b.length : Int) < k then 1 else 0] = E at *
    have HR2 := Lib.hid hr
    clear hr hE hl hS2
    go_wp2_with fail
    go_ret
    show MethPost ρ w bd (truncate n.data.toList k s) _ _
    unfold truncate
    rw [HP.out]
    exact ⟨rfl, ρ, HR2.out.rep, HF.out⟩
  · have HP := Lib.hid (Dk.asked_off (k := (fun s => { s with F := setF n.data.toList ⟨((get n.data.toList s.F).getD ⟨[], 0⟩).b.take k.toNat, min ((get n.data.toList s.F).getD ⟨[], 0⟩).fast k.toNat⟩ s.F })) (s := s) hl h0)
    have HR2 := Lib.hid hr
    clear hr h0 hl hS2
    go_wp2_with fail
    go_ret
    show MethPost ρ w bd (truncate n.data.toList k s) _ _
    unfold truncate
    rw [HP.out]
    exact ⟨rfl, ρ, HR2.out.rep, HF.out⟩
  · have HP := Lib.hid (Dk.asked_ok (k := (fun s => { s with F := setF n.data.toList ⟨((get n.data.toList s.F).getD ⟨[], 0⟩).b.take k.toNat, min ((get n.data.toList s.F).getD ⟨[], 0⟩).fast k.toNat⟩ s.F })) (s := s) hl h0)
    obtain ⟨hkz, f, hf, _⟩ := wtb_get hl
    have hk0 : 0 ≤ k := by
      split at hkz
      · cases hkz
      · omega
    have hkl : k ≤ f.b.length := by
      have h3 := first_fourth hl
      rw [hf] at h3
      split at h3
      · cases h3
      · simp only [Option.getD_some] at *
        omega
    obtain ⟨kn, rfl⟩ := Int.eq_ofNat_of_zero_le hk0
    have hf' : get n.data.toList (Dk.less s).F = some f := hf
    have hx := get_mem hf'
    have c0 := hr.c0
    have c4 := hr.g0 hx
    have c5 := hr.g1 hx
    have hrow := hr.hv _ hx
    have hblk := hr.hf _ hx
    have hfast := hg.fast _ hx
    simp only at c4 c5 hrow hblk hfast
    have hbig := hg.size_le hf
    have hrole := hr.rf _ hx
    simp only at hrole
    generalize hgb : blk n.data.toList = g at *
    generalize hV : dv n.data.toList = V at *
    have hlook : ∀ V', Below w2.heap.size w2 V' → (Instr.lookup 56 (.map (some bm)) (.string n) false).run Tryz.prog V' = .ok (.pointer (some ⟨g, 0, none⟩)) V' := fun V' hV' => by
      have := (hr.below hV').look n hn
      rw [hf', hgb] at this
      exact this
    have HR2 := Lib.hid hr
    have HX := Lib.hid hf'
    have HG := Lib.hid hgb
    have HV := Lib.hid hV
    have HS2 := Lib.hid hS2
    have HC := Lib.hid (And.intro c0 (And.intro c4 c5))
    have HL := Lib.hid hlook
    have HB3 := Lib.hid hblk
    have HRow := Lib.hid hrow
    have HRole := Lib.hid hrole
    clear hr hl h0 hf hf' hx hgb hV hS2 c0 c4 c5 hrow hblk hrole hlook hkz
    go_wp2_with fail
    refine wp_region_held_drew (S := fun w' => w'.cell? ⟨w.heap.size, 0, none⟩ = some (.pointer (some ⟨bd, 0, none⟩)) ∧ w'.cell? ⟨w.heap.size + 1, 0, none⟩ = some (.string n) ∧ w'.cell? ⟨bd, 0, none⟩ = some (.map (some bm)) ∧ (Instr.lookup 56 (.map (some bm)) (.string n) false).run Tryz.prog w' = .ok (.pointer (some ⟨g, 0, none⟩)) w') (by kernel_rfl) ?_ (fun hHeld => ?_)
    · exact ⟨HS2.out.1, HS2.out.2.1, HC.out.1, HL.out _ (Below.refl _ _).drew⟩
    refine wpAnyH_take (i := 0) (oi := _) (v := (.pointer (some ⟨bd, 0, none⟩))) rfl (by kernel_rfl) (by kernel_rfl) (by kernel_rfl) (fun _ _ _ h => h) (Or.inl ⟨by rfl, ?_⟩) (by assumption) ?_
    · intro w' hSw
      (try dsimp only at hSw)
      go_simp
    (try simp only [Act.put, List.setIfInBounds_toArray, List.set_cons_zero, List.set_cons_succ])
    refine wpAnyH_take (i := 1) (oi := _) (v := (.pointer (some ⟨bd, 0, none⟩))) rfl (by kernel_rfl) (by kernel_rfl) (by kernel_rfl) (fun _ _ _ h => h) (Or.inl ⟨by rfl, ?_⟩) (by assumption) ?_
    · intro w' hSw
      (try dsimp only at hSw)
      go_simp
    (try simp only [Act.put, List.setIfInBounds_toArray, List.set_cons_zero, List.set_cons_succ])
    refine wpAnyH_take (i := 2) (oi := _) (v := (.pointer (some ⟨bd, 0, none⟩))) rfl (by kernel_rfl) (by kernel_rfl) (by kernel_rfl) (fun _ _ _ h => h) (Or.inl ⟨by rfl, ?_⟩) (by assumption) ?_
    · intro w' hSw
      (try dsimp only at hSw)
      go_simp
    (try simp only [Act.put, List.setIfInBounds_toArray, List.set_cons_zero, List.set_cons_succ])
    refine wpAnyH_take (i := 3) (oi := _) (v := (.map (some bm))) rfl (by kernel_rfl) (by kernel_rfl) (by kernel_rfl) (fun _ _ _ h => h) (Or.inl ⟨by rfl, ?_⟩) (by assumption) ?_
    · intro w' hSw
      (try dsimp only at hSw)
      go_simp
    (try simp only [Act.put, List.setIfInBounds_toArray, List.set_cons_zero, List.set_cons_succ])
    refine wpAnyH_take (i := 4) (oi := _) (v := (.string n)) rfl (by kernel_rfl) (by kernel_rfl) (by kernel_rfl) (fun _ _ _ h => h) (Or.inl ⟨by rfl, ?_⟩) (by assumption) ?_
    · intro w' hSw
      (try dsimp only at hSw)
      go_simp
    (try simp only [Act.put, List.setIfInBounds_toArray, List.set_cons_zero, List.set_cons_succ])
    refine wpAnyH_take (i := 5) (oi := _) (v := (.pointer (some ⟨g, 0, none⟩))) rfl (by kernel_rfl) (by kernel_rfl) (by kernel_rfl) (fun _ _ _ h => h) (Or.inl ⟨by rfl, ?_⟩) (by assumption) ?_
    · intro w' hSw
      (try dsimp only at hSw)
      go_simp
    (try simp only [Act.put, List.setIfInBounds_toArray, List.set_cons_zero, List.set_cons_succ])
    refine wpAnyH_ready (rs := [6]) (by kernel_rfl) (by simp) ?_
    refine AllReadyH.cons (o := _) rfl (fun K hK => ?_) AllReadyH.nil
    go_simp
    refine hK.out _ _ ?_ (fun hHeld => ?_)
    · exact ⟨HS2.out.1, HS2.out.2.1, HC.out.1, HL.out _ (Below.refl _ _).drew⟩
    clear hK K
    (try simp only [Act.put, List.setIfInBounds_toArray, List.set_cons_zero, List.set_cons_succ])
    refine wpAnyH_done (by kernel_rfl) ?_ _
    go_wp2_with fail
    have hkb : (0 : Int) ≤ (kn : Int) := by omega
    have HNE := Lib.hid (show (⟨g, 0, none⟩ : Addr).block ≠ (⟨w.heap.size + 1 + 1, 0, none⟩ : Addr).block from fun e => by
      have h1 := HRole.out
      rw [show g = w.heap.size + 1 + 1 from e, H0.out.fresh (by omega)] at h1
      cases h1)
    rcases HRow.out.2 with ⟨rfl, hz⟩ | ⟨g', cap, cur, rfl, _, hgb', hc1, hc2, hcs, hct⟩
    · have hkn : kn = 0 := by omega
      subst hkn
      refine Two.start (fun w' => w'.cell? ⟨w.heap.size + 1 + 1, 0, none⟩ = some (.int .i64 0)) (fun w' => w'.cell? ⟨g, 0, none⟩ = some (.slice none 0 0) ∧ w'.cell? ⟨g, 1, none⟩ = some (.int .i64 f.fast)) 17 (by kernel_rfl) ?_ (fun hHeld => ?_)
      · exact ⟨HS2.out.2.2, HC.out.2.1, HC.out.2.2⟩
      refine Two.takeT (i := 0) (oi := _) (v := (.pointer (some ⟨g, 0, none⟩))) rfl (by kernel_rfl) (by kernel_rfl) (by kernel_rfl) (fun _ _ _ h => h) (by kernel_rfl) (Or.inl ⟨by rfl, ?_⟩) (by assumption) ?_
      · intro w' hSw
        (try dsimp only at hSw)
        go_simp
      (try simp only [Act.put, List.setIfInBounds_toArray, List.set_cons_zero, List.set_cons_succ])
      refine Two.takeT (i := 1) (oi := _) (v := (.pointer (some ⟨g, 0, none⟩))) rfl (by kernel_rfl) (by kernel_rfl) (by kernel_rfl) (fun _ _ _ h => h) (by kernel_rfl) (Or.inl ⟨by rfl, ?_⟩) (by assumption) ?_
      · intro w' hSw
        (try dsimp only at hSw)
        go_simp
      (try simp only [Act.put, List.setIfInBounds_toArray, List.set_cons_zero, List.set_cons_succ])
      refine Two.takeT (i := 2) (oi := _) (v := (.pointer (some ⟨g, 0, none⟩))) rfl (by kernel_rfl) (by kernel_rfl) (by kernel_rfl) (fun _ _ _ h => h) (by kernel_rfl) (Or.inl ⟨by rfl, ?_⟩) (by assumption) ?_
      · intro w' hSw
        (try dsimp only at hSw)
        go_simp
      (try simp only [Act.put, List.setIfInBounds_toArray, List.set_cons_zero, List.set_cons_succ])
      refine Two.takeT (i := 3) (oi := _) (v := (.pointer (some ⟨g, 0, none⟩))) rfl (by kernel_rfl) (by kernel_rfl) (by kernel_rfl) (fun _ _ _ h => h) (by kernel_rfl) (Or.inl ⟨by rfl, ?_⟩) (by assumption) ?_
      · intro w' hSw
        (try dsimp only at hSw)
        go_simp
      (try simp only [Act.put, List.setIfInBounds_toArray, List.set_cons_zero, List.set_cons_succ])
      refine Two.takeT (i := 4) (oi := _) (v := (.pointer (some ⟨g, 0, none⟩))) rfl (by kernel_rfl) (by kernel_rfl) (by kernel_rfl) (fun _ _ _ h => h) (by kernel_rfl) (Or.inl ⟨by rfl, ?_⟩) (by assumption) ?_
      · intro w' hSw
        (try dsimp only at hSw)
        go_simp
      (try simp only [Act.put, List.setIfInBounds_toArray, List.set_cons_zero, List.set_cons_succ])
      refine Two.takeS (i := 5) (oi := _) (v := (.slice none 0 0)) rfl (by kernel_rfl) (by kernel_rfl) (by kernel_rfl) (fun _ _ _ h => h) (by kernel_rfl) (Or.inl ⟨by rfl, ?_⟩) (by assumption) ?_
      · intro w' hSw
        (try dsimp only at hSw)
        go_simp
      (try simp only [Act.put, List.setIfInBounds_toArray, List.set_cons_zero, List.set_cons_succ])
      refine Two.takeT (i := 6) (oi := _) (v := (.int .i64 0)) rfl (by kernel_rfl) (by kernel_rfl) (by kernel_rfl) (fun _ _ _ h => h) (by kernel_rfl) (Or.inl ⟨by rfl, ?_⟩) (by assumption) ?_
      · intro w' hSw
        (try dsimp only at hSw)
        go_simp
      (try simp only [Act.put, List.setIfInBounds_toArray, List.set_cons_zero, List.set_cons_succ])
      refine Two.takeT (i := 7) (oi := _) (v := (.slice none 0 0)) rfl (by kernel_rfl) (by kernel_rfl) (by kernel_rfl) (fun _ _ _ h => h) (by kernel_rfl) (Or.inl ⟨by rfl, ?_⟩) (by assumption) ?_
      · intro w' hSw
        (try dsimp only at hSw)
        go_simp
      (try simp only [Act.put, List.setIfInBounds_toArray, List.set_cons_zero, List.set_cons_succ])
      refine Two.takeT (i := 9) (oi := _) (v := (.pointer (some ⟨g, 0, none⟩))) rfl (by kernel_rfl) (by kernel_rfl) (by kernel_rfl) (fun _ _ _ h => h) (by kernel_rfl) (Or.inl ⟨by rfl, ?_⟩) (by assumption) ?_
      · intro w' hSw
        (try dsimp only at hSw)
        go_simp
      (try simp only [Act.put, List.setIfInBounds_toArray, List.set_cons_zero, List.set_cons_succ])
      refine Two.takeT (i := 10) (oi := _) (v := (.pointer (some ⟨g, 0, none⟩))) rfl (by kernel_rfl) (by kernel_rfl) (by kernel_rfl) (fun _ _ _ h => h) (by kernel_rfl) (Or.inl ⟨by rfl, ?_⟩) (by assumption) ?_
      · intro w' hSw
        (try dsimp only at hSw)
        go_simp
      (try simp only [Act.put, List.setIfInBounds_toArray, List.set_cons_zero, List.set_cons_succ])
      refine Two.takeT (i := 11) (oi := _) (v := (.pointer (some ⟨g, 1, none⟩))) rfl (by kernel_rfl) (by kernel_rfl) (by kernel_rfl) (fun _ _ _ h => h) (by kernel_rfl) (Or.inl ⟨by rfl, ?_⟩) (by assumption) ?_
      · intro w' hSw
        (try dsimp only at hSw)
        go_simp
      (try simp only [Act.put, List.setIfInBounds_toArray, List.set_cons_zero, List.set_cons_succ])
      refine Two.takeS (i := 12) (oi := _) (v := (.int .i64 f.fast)) rfl (by kernel_rfl) (by kernel_rfl) (by kernel_rfl) (fun _ _ _ h => h) (by kernel_rfl) (Or.inl ⟨by rfl, ?_⟩) (by assumption) ?_
      · intro w' hSw
        (try dsimp only at hSw)
        go_simp
      (try simp only [Act.put, List.setIfInBounds_toArray, List.set_cons_zero, List.set_cons_succ])
      refine Two.takeT (i := 13) (oi := _) (v := (.int .i64 0)) rfl (by kernel_rfl) (by kernel_rfl) (by kernel_rfl) (fun _ _ _ h => h) (by kernel_rfl) (Or.inl ⟨by rfl, ?_⟩) (by assumption) ?_
      · intro w' hSw
        (try dsimp only at hSw)
        go_simp
      (try simp only [Act.put, List.setIfInBounds_toArray, List.set_cons_zero, List.set_cons_succ])
      refine Two.takeT (i := 14) (oi := _) (v := (.int .i64 (min (f.fast : Int) 0))) rfl (by kernel_rfl) (by kernel_rfl) (by kernel_rfl) (fun _ _ _ h => h) (by kernel_rfl) (Or.inl ⟨by rfl, ?_⟩) (by assumption) ?_
      · intro w' hSw
        (try dsimp only at hSw)
        go_simp
      (try simp only [Act.put, List.setIfInBounds_toArray, List.set_cons_zero, List.set_cons_succ])
      refine Two.step (i := 8) (o := _) (by kernel_rfl) rfl (fun K hK => ?_)
      go_simp
      refine (clone_nil 0 0 _).mono ?_
      rintro e w3 ⟨rfl, rfl⟩
      refine hK.out _ _ ?_ (fun hHeld => ?_)
      · exact ⟨HS2.out.2.2, HC.out.2.1, HC.out.2.2⟩
      clear hK K
      (try simp only [Act.put, List.setIfInBounds_toArray, List.set_cons_zero, List.set_cons_succ])
      refine Two.step (i := 15) (o := _) (by kernel_rfl) rfl (fun K hK => ?_)
      go_simp
      refine hK.out _ _ ?_ (fun hHeld => ?_)
      · exact ⟨HS2.out.2.2, HC.out.2.1, HC.out.2.2⟩
      clear hK K
      (try simp only [Act.put, List.setIfInBounds_toArray, List.set_cons_zero, List.set_cons_succ])
      refine Two.step (i := 16) (o := _) (by kernel_rfl) rfl (fun K hK => ?_)
      go_simp
      refine hK.out _ _ ?_ (fun hHeld => ?_)
      · exact ⟨HS2.out.2.2, HC.out.2.1, HC.out.2.2⟩
      clear hK K
      (try simp only [Act.put, List.setIfInBounds_toArray, List.set_cons_zero, List.set_cons_succ])
      refine Two.after (i := 17) (o := _) (by kernel_rfl) rfl (by kernel_rfl) (fun K hK => ?_)
      have c4' := HC.out.2.1
      have c5' := HC.out.2.2
      have f4 : w2.frozen? ⟨g, 0, none⟩ = false := frozen_of_block HB3.out
      have f5 : w2.frozen? ⟨g, 1, none⟩ = false := frozen_of_block HB3.out
      go_simp
      refine hK.out _ _ ?_ (fun hHeld => ?_)
      · first | exact cell_set (cell_set HS2.out.2.2 HNE.out) HNE.out | exact cell_set HS2.out.2.2 HNE.out
      clear hK K
      (try simp only [Act.put, List.setIfInBounds_toArray, List.set_cons_zero, List.set_cons_succ])
      refine Two.after (i := 18) (o := _) (by kernel_rfl) rfl (by kernel_rfl) (fun K hK => ?_)
      go_simp
      refine hK.out _ _ ?_ (fun hHeld => ?_)
      · first | exact cell_set (cell_set HS2.out.2.2 HNE.out) HNE.out | exact cell_set HS2.out.2.2 HNE.out
      clear hK K
      (try simp only [Act.put, List.setIfInBounds_toArray, List.set_cons_zero, List.set_cons_succ])
      refine Two.after (i := 19) (o := _) (by kernel_rfl) rfl (by kernel_rfl) (fun K hK => ?_)
      go_simp
      refine hK.out _ _ ?_ (fun hHeld => ?_)
      · first | exact cell_set (cell_set HS2.out.2.2 HNE.out) HNE.out | exact cell_set HS2.out.2.2 HNE.out
      clear hK K
      (try simp only [Act.put, List.setIfInBounds_toArray, List.set_cons_zero, List.set_cons_succ])
      refine Two.after (i := 20) (o := _) (by kernel_rfl) rfl (by kernel_rfl) (fun K hK => ?_)
      go_simp
      refine hK.out _ _ ?_ (fun hHeld => ?_)
      · first | exact cell_set (cell_set HS2.out.2.2 HNE.out) HNE.out | exact cell_set HS2.out.2.2 HNE.out
      clear hK K
      (try simp only [Act.put, List.setIfInBounds_toArray, List.set_cons_zero, List.set_cons_succ])
      refine Two.done (by kernel_rfl) ?_ _
      clear c4' c5' f4 f5
      go_wp2_with fail
      go_ret
      show MethPost ρ w bd (truncate n.data.toList ((0 : Nat) : Int) s) _ _
      unfold truncate
      rw [HP.out, HX.out]
      obtain rfl := HG.out
      obtain ⟨ρ', h1, h2⟩ := HR2.out.two HX.out (Below.refl _ _) (.slice none 0 0) ⟨[], min f.fast 0⟩ (World.ownsRow_nil _ _ _ _)
      have e1 : ((min f.fast 0 : Nat) : Int) = min (f.fast : Int) 0 := by omega
      simp only [e1] at h1 h2
      have hd := (Below.refl ((w2.setCell ⟨blk n.data.toList, 0, none⟩ (Value.slice none 0 0)).setCell ⟨blk n.data.toList, 1, none⟩ (Value.int IntKind.i64 (min (f.fast : Int) 0))).heap.size ((w2.setCell ⟨blk n.data.toList, 0, none⟩ (Value.slice none 0 0)).setCell ⟨blk n.data.toList, 1, none⟩ (Value.int IntKind.i64 (min (f.fast : Int) 0)))).drew.drew
      exact ⟨rfl, ρ', (h1.below hd).rep, (HF.out.trans h2).trans (Fr.of_below hd)⟩
    · have hkc : (kn : Int) ≤ (cap : Int) := by omega
      have hcells : ∀ i, i < kn → w2.cell? ((⟨g', 0, none⟩ : Addr).add i) = some (.int .u8 (((f.b.take kn).map fun c => (c.toNat : Int)).getD i 0)) := by
        intro i hi
        have e1 : (⟨g', 0, none⟩ : Addr).add i = ⟨g', i, none⟩ := by
          unfold Addr.add
          split
          · rename_i h0; rw [h0]
          · simp
        rw [e1, cell_of_block hgb']
        have e2 : cur.toList[i]? = (f.b.map encU8)[i]? := by
          rw [← hct, List.getElem?_take, if_pos (by omega)]
        rw [← Array.getElem?_toList, e2]
        have h1 : i < f.b.length := by omega
        simp [h1, hi, encU8, List.getD, List.getElem?_take]
      have HCE := Lib.hid hcells
      clear hcells hgb' hcs hct
      refine Two.start (fun w' => w'.cell? ⟨w.heap.size + 1 + 1, 0, none⟩ = some (.int .i64 (kn : Int))) (fun w' => w'.cell? ⟨g, 0, none⟩ = some (.slice (some ⟨g', 0, none⟩) f.b.length cap) ∧ w'.cell? ⟨g, 1, none⟩ = some (.int .i64 f.fast)) 17 (by kernel_rfl) ?_ (fun hHeld => ?_)
      · exact ⟨HS2.out.2.2, HC.out.2.1, HC.out.2.2⟩
      refine Two.takeT (i := 0) (oi := _) (v := (.pointer (some ⟨g, 0, none⟩))) rfl (by kernel_rfl) (by kernel_rfl) (by kernel_rfl) (fun _ _ _ h => h) (by kernel_rfl) (Or.inl ⟨by rfl, ?_⟩) (by assumption) ?_
      · intro w' hSw
        (try dsimp only at hSw)
        go_simp
      (try simp only [Act.put, List.setIfInBounds_toArray, List.set_cons_zero, List.set_cons_succ])
      refine Two.takeT (i := 1) (oi := _) (v := (.pointer (some ⟨g, 0, none⟩))) rfl (by kernel_rfl) (by kernel_rfl) (by kernel_rfl) (fun _ _ _ h => h) (by kernel_rfl) (Or.inl ⟨by rfl, ?_⟩) (by assumption) ?_
      · intro w' hSw
        (try dsimp only at hSw)
        go_simp
      (try simp only [Act.put, List.setIfInBounds_toArray, List.set_cons_zero, List.set_cons_succ])
      refine Two.takeT (i := 2) (oi := _) (v := (.pointer (some ⟨g, 0, none⟩))) rfl (by kernel_rfl) (by kernel_rfl) (by kernel_rfl) (fun _ _ _ h => h) (by kernel_rfl) (Or.inl ⟨by rfl, ?_⟩) (by assumption) ?_
      · intro w' hSw
        (try dsimp only at hSw)
        go_simp
      (try simp only [Act.put, List.setIfInBounds_toArray, List.set_cons_zero, List.set_cons_succ])
      refine Two.takeT (i := 3) (oi := _) (v := (.pointer (some ⟨g, 0, none⟩))) rfl (by kernel_rfl) (by kernel_rfl) (by kernel_rfl) (fun _ _ _ h => h) (by kernel_rfl) (Or.inl ⟨by rfl, ?_⟩) (by assumption) ?_
      · intro w' hSw
        (try dsimp only at hSw)
        go_simp
      (try simp only [Act.put, List.setIfInBounds_toArray, List.set_cons_zero, List.set_cons_succ])
      refine Two.takeT (i := 4) (oi := _) (v := (.pointer (some ⟨g, 0, none⟩))) rfl (by kernel_rfl) (by kernel_rfl) (by kernel_rfl) (fun _ _ _ h => h) (by kernel_rfl) (Or.inl ⟨by rfl, ?_⟩) (by assumption) ?_
      · intro w' hSw
        (try dsimp only at hSw)
        go_simp
      (try simp only [Act.put, List.setIfInBounds_toArray, List.set_cons_zero, List.set_cons_succ])
      refine Two.takeS (i := 5) (oi := _) (v := (.slice (some ⟨g', 0, none⟩) f.b.length cap)) rfl (by kernel_rfl) (by kernel_rfl) (by kernel_rfl) (fun _ _ _ h => h) (by kernel_rfl) (Or.inl ⟨by rfl, ?_⟩) (by assumption) ?_
      · intro w' hSw
        (try dsimp only at hSw)
        go_simp
      (try simp only [Act.put, List.setIfInBounds_toArray, List.set_cons_zero, List.set_cons_succ])
      refine Two.takeT (i := 6) (oi := _) (v := (.int .i64 (kn : Int))) rfl (by kernel_rfl) (by kernel_rfl) (by kernel_rfl) (fun _ _ _ h => h) (by kernel_rfl) (Or.inl ⟨by rfl, ?_⟩) (by assumption) ?_
      · intro w' hSw
        (try dsimp only at hSw)
        go_simp
      (try simp only [Act.put, List.setIfInBounds_toArray, List.set_cons_zero, List.set_cons_succ])
      refine Two.takeT (i := 7) (oi := _) (v := (.slice (some ⟨g', 0, none⟩) kn cap)) rfl (by kernel_rfl) (by kernel_rfl) (by kernel_rfl) (fun _ _ _ h => h) (by kernel_rfl) (Or.inl ⟨by rfl, ?_⟩) (by assumption) ?_
      · intro w' hSw
        (try dsimp only at hSw)
        go_simp
      (try simp only [Act.put, List.setIfInBounds_toArray, List.set_cons_zero, List.set_cons_succ])
      refine Two.takeT (i := 9) (oi := _) (v := (.pointer (some ⟨g, 0, none⟩))) rfl (by kernel_rfl) (by kernel_rfl) (by kernel_rfl) (fun _ _ _ h => h) (by kernel_rfl) (Or.inl ⟨by rfl, ?_⟩) (by assumption) ?_
      · intro w' hSw
        (try dsimp only at hSw)
        go_simp
      (try simp only [Act.put, List.setIfInBounds_toArray, List.set_cons_zero, List.set_cons_succ])
      refine Two.takeT (i := 10) (oi := _) (v := (.pointer (some ⟨g, 0, none⟩))) rfl (by kernel_rfl) (by kernel_rfl) (by kernel_rfl) (fun _ _ _ h => h) (by kernel_rfl) (Or.inl ⟨by rfl, ?_⟩) (by assumption) ?_
      · intro w' hSw
        (try dsimp only at hSw)
        go_simp
      (try simp only [Act.put, List.setIfInBounds_toArray, List.set_cons_zero, List.set_cons_succ])
      refine Two.takeT (i := 11) (oi := _) (v := (.pointer (some ⟨g, 1, none⟩))) rfl (by kernel_rfl) (by kernel_rfl) (by kernel_rfl) (fun _ _ _ h => h) (by kernel_rfl) (Or.inl ⟨by rfl, ?_⟩) (by assumption) ?_
      · intro w' hSw
        (try dsimp only at hSw)
        go_simp
      (try simp only [Act.put, List.setIfInBounds_toArray, List.set_cons_zero, List.set_cons_succ])
      refine Two.takeS (i := 12) (oi := _) (v := (.int .i64 f.fast)) rfl (by kernel_rfl) (by kernel_rfl) (by kernel_rfl) (fun _ _ _ h => h) (by kernel_rfl) (Or.inl ⟨by rfl, ?_⟩) (by assumption) ?_
      · intro w' hSw
        (try dsimp only at hSw)
        go_simp
      (try simp only [Act.put, List.setIfInBounds_toArray, List.set_cons_zero, List.set_cons_succ])
      refine Two.takeT (i := 13) (oi := _) (v := (.int .i64 (kn : Int))) rfl (by kernel_rfl) (by kernel_rfl) (by kernel_rfl) (fun _ _ _ h => h) (by kernel_rfl) (Or.inl ⟨by rfl, ?_⟩) (by assumption) ?_
      · intro w' hSw
        (try dsimp only at hSw)
        go_simp
      (try simp only [Act.put, List.setIfInBounds_toArray, List.set_cons_zero, List.set_cons_succ])
      refine Two.takeT (i := 14) (oi := _) (v := (.int .i64 (min (f.fast : Int) (kn : Int)))) rfl (by kernel_rfl) (by kernel_rfl) (by kernel_rfl) (fun _ _ _ h => h) (by kernel_rfl) (Or.inl ⟨by rfl, ?_⟩) (by assumption) ?_
      · intro w' hSw
        (try dsimp only at hSw)
        go_simp
      (try simp only [Act.put, List.setIfInBounds_toArray, List.set_cons_zero, List.set_cons_succ])
      refine Two.step (i := 8) (o := _) (by kernel_rfl) rfl (fun K hK => ?_)
      go_simp
      refine (clone_any ⟨g', 0, none⟩ kn cap ((f.b.take kn).map fun c => (c.toNat : Int)) _ (by simp; omega) (by omega) HCE.out).mono ?_
      rintro e w3 ⟨v', rfl, hrow3, hne3, hb3⟩
      have hb3' : Below w2.heap.size w2 w3 := (((Below.refl w2.heap.size w2).drew).drew).trans hb3
      have HR3 := Lib.hid hrow3
      obtain ⟨p', c', rfl⟩ := own_slice hrow3
      have HCW := Lib.hid (And.intro ((hb3'.cell (cell_lt HS2.out.2.2)).trans HS2.out.2.2) (And.intro ((hb3'.cell (cell_lt HC.out.2.1)).trans HC.out.2.1) ((hb3'.cell (cell_lt HC.out.2.2)).trans HC.out.2.2)))
      have HB33 := Lib.hid hb3'
      clear hrow3 hne3 hb3 hb3'
      refine hK.out _ _ ?_ (fun hHeld => ?_)
      · exact ⟨HCW.out.1, HCW.out.2.1, HCW.out.2.2⟩
      clear hK K
      (try simp only [Act.put, List.setIfInBounds_toArray, List.set_cons_zero, List.set_cons_succ])
      refine Two.step (i := 15) (o := _) (by kernel_rfl) rfl (fun K hK => ?_)
      go_simp
      refine hK.out _ _ ?_ (fun hHeld => ?_)
      · exact ⟨HCW.out.1, HCW.out.2.1, HCW.out.2.2⟩
      clear hK K
      (try simp only [Act.put, List.setIfInBounds_toArray, List.set_cons_zero, List.set_cons_succ])
      refine Two.step (i := 16) (o := _) (by kernel_rfl) rfl (fun K hK => ?_)
      go_simp
      refine hK.out _ _ ?_ (fun hHeld => ?_)
      · exact ⟨HCW.out.1, HCW.out.2.1, HCW.out.2.2⟩
      clear hK K
      (try simp only [Act.put, List.setIfInBounds_toArray, List.set_cons_zero, List.set_cons_succ])
      refine Two.after (i := 17) (o := _) (by kernel_rfl) rfl (by kernel_rfl) (fun K hK => ?_)
      have c4' := HCW.out.2.1
      have c5' := HCW.out.2.2
      have f4 : w3.frozen? ⟨g, 0, none⟩ = false := frozen_of_block ((HB33.out.block g (cell_lt HC.out.2.1)).trans HB3.out)
      have f5 : w3.frozen? ⟨g, 1, none⟩ = false := frozen_of_block ((HB33.out.block g (cell_lt HC.out.2.1)).trans HB3.out)
      go_simp
      refine hK.out _ _ ?_ (fun hHeld => ?_)
      · first | exact cell_set (cell_set HCW.out.1 HNE.out) HNE.out | exact cell_set HCW.out.1 HNE.out
      clear hK K
      (try simp only [Act.put, List.setIfInBounds_toArray, List.set_cons_zero, List.set_cons_succ])
      refine Two.after (i := 18) (o := _) (by kernel_rfl) rfl (by kernel_rfl) (fun K hK => ?_)
      go_simp
      refine hK.out _ _ ?_ (fun hHeld => ?_)
      · first | exact cell_set (cell_set HCW.out.1 HNE.out) HNE.out | exact cell_set HCW.out.1 HNE.out
      clear hK K
      (try simp only [Act.put, List.setIfInBounds_toArray, List.set_cons_zero, List.set_cons_succ])
      refine Two.after (i := 19) (o := _) (by kernel_rfl) rfl (by kernel_rfl) (fun K hK => ?_)
      go_simp
      refine hK.out _ _ ?_ (fun hHeld => ?_)
      · first | exact cell_set (cell_set HCW.out.1 HNE.out) HNE.out | exact cell_set HCW.out.1 HNE.out
      clear hK K
      (try simp only [Act.put, List.setIfInBounds_toArray, List.set_cons_zero, List.set_cons_succ])
      refine Two.after (i := 20) (o := _) (by kernel_rfl) rfl (by kernel_rfl) (fun K hK => ?_)
      go_simp
      refine hK.out _ _ ?_ (fun hHeld => ?_)
      · first | exact cell_set (cell_set HCW.out.1 HNE.out) HNE.out | exact cell_set HCW.out.1 HNE.out
      clear hK K
      (try simp only [Act.put, List.setIfInBounds_toArray, List.set_cons_zero, List.set_cons_succ])
      refine Two.done (by kernel_rfl) ?_ _
      clear c4' c5' f4 f5
      go_wp2_with fail
      go_ret
      show MethPost ρ w bd (truncate n.data.toList (kn : Int) s) _ _
      unfold truncate
      rw [HP.out, HX.out]
      obtain rfl := HG.out
      have hrow3 := HR3.out
      have em : ((f.b.take kn).map fun c => (c.toNat : Int)).map (Value.int .u8) = (f.b.take kn).map encU8 := by rw [List.map_map]; rfl
      have el : (f.b.take kn).length = kn := by rw [List.length_take]; omega
      rw [em] at hrow3
      obtain ⟨ρ', h1, h2⟩ := HR2.out.two HX.out HB33.out (.slice p' kn c') ⟨f.b.take kn, min f.fast kn⟩ (by rw [el]; exact hrow3)
      have e1 : ((min f.fast kn : Nat) : Int) = min (f.fast : Int) kn := by omega
      simp only [e1] at h1 h2
      exact ⟨rfl, ρ', h1.rep, HF.out.trans h2⟩
end Go.Proofs.YtjlchphbkmaacaaGreatDoor
