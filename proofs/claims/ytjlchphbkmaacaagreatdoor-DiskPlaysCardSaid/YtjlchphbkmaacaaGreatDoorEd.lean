/- Create. -/
import Derived.Test.YtjlchphbkmaacaaGreatDoorEc
set_option linter.unusedVariables false
set_option linter.unusedSimpArgs false
namespace Go.Proofs.YtjlchphbkmaacaaGreatDoor
open Go.RowKit Go.MapKept Go.ChangeMaps Go.Maps
attribute [local go_sem ↓] Go.wp_at_zero Go.wp_at_succ
open Dk

theorem Dk.AskedQ.back {ρ : Nat → Option Role} {w V W' : World} {bd : Nat} {s : St} {bm : Nat} {blk : Nm → Nat} {dv : Nm → Value} {l : List Int} {n : Int} (hb : Below w.heap.size w V) (h : AskedQ ρ V bd s bm blk dv l n W') : AskedQ ρ w bd s bm blk dv l n W' :=
  ⟨(Fr.of_below hb).trans h.1, h.2⟩

theorem cell_grown {w w' : World} {b : Nat} (h : w.grownBy w' (some b)) {a : Addr} {v : Value} (hc : w.cell? a = some v) (hne : a.block ≠ b) : w'.cell? a = some v :=
  (World.cell?_of_block (w := w) (h.block a.block (cell_lt hc) (fun e => hne (Option.some.inj e)))).trans hc
theorem cell_alloc {w : World} (o : Obj) {a : Addr} {v : Value} (hc : w.cell? a = some v) : (w.alloc o).cell? a = some v :=
  (World.cell?_of_block (w := w) (Below.heap_alloc w o _ (cell_lt hc))).trans hc

theorem ask_create1 {ρ : Nat → Option Role} {W0 : World} {bd : Nat} {s : St} {bm : Nat} {blk : Nm → Nat} {dv : Nm → Value} (h : RepX ρ W0 bd s bm blk dv) {a1 a2 : Addr} {n : ByteArray} (hn : n.size ≤ maxLen)
    (h1 : W0.cell? a1 = some (.pointer (some ⟨bd, 0, none⟩))) (h2 : W0.cell? a2 = some (.string n)) :
    AskIs Tryz.prog W0 (.func (.func 50) #[] #[.pointer (some a1), .pointer (some a2)]) (if (get n.data.toList s.F).isSome then 9 else 0) :=
  ⟨_, _, _, rfl, (enters_of Tryz.func50 (by kernel_rfl) rfl) _, fun W hb => by
    have hr := h.below hb
    exact create1_any bd bm n a1 a2 _ (blk n.data.toList) W ((hb.cell (cell_lt h1)).trans h1) ((hb.cell (cell_lt h2)).trans h2) hr.c0 fun V hV => (hr.below hV).look n hn⟩
theorem ask_create2 {ρ : Nat → Option Role} {W0 : World} {bd : Nat} {s : St} {bm : Nat} {blk : Nm → Nat} {dv : Nm → Value} (h : RepX ρ W0 bd s bm blk dv) {a1 : Addr}
    (h1 : W0.cell? a1 = some (.pointer (some ⟨bd, 0, none⟩))) :
    AskIs Tryz.prog W0 (.func (.func 51) #[] #[.pointer (some a1)]) (if 512 ≤ s.F.length then 7 else 0) :=
  ⟨_, _, _, rfl, (enters_of Tryz.func51 (by kernel_rfl) rfl) _, fun W hb => by
    have hr := h.below hb
    refine create2_any bd bm s.F.length a1 W ((hb.cell (cell_lt h1)).trans h1) hr.c0 (fun ty => ?_) _ rfl
    have := hr.hm.len (t := 56) (e := 76) Tryz.underlying56 ty
    rw [dat_size] at this
    exact this⟩

/-- The five questions of Create. -/
theorem create_first {ρ : Nat → Option Role} {w : World} {bd : Nat} {s : St} {bm : Nat} {blk : Nm → Nat} {dv : Nm → Value} (h : RepX ρ w bd s bm blk dv) (hg : Fine s) {a1 a2 : Addr} {n : ByteArray} (hn : n.size ≤ maxLen) (M : Bool) (hM : Dk.may n.data.toList = M)
    (h1 : w.cell? a1 = some (.pointer (some ⟨bd, 0, none⟩))) (h2 : w.cell? a2 = some (.string n)) :
    Calls Tryz.prog 43 #[.slice (some ⟨w.heap.size + 1 + 1, 0, none⟩) 5 5]
      (((w.alloc (.cells #[.bool !M] 4)).alloc (.cells #[.int .i64 1] 25)).alloc
        (.cells #[.func (.func 44) #[.pointer (some ⟨bd, 0, none⟩)] #[], .func (.func 69) #[] #[.pointer (some ⟨w.heap.size, 0, none⟩), .pointer (some ⟨w.heap.size + 1, 0, none⟩)],
          .func (.func 50) #[] #[.pointer (some a1), .pointer (some a2)], .func (.func 51) #[] #[.pointer (some a1)], .func (.func 52) #[.pointer (some ⟨bd, 0, none⟩)] #[]] 72 (0, 0)))
      (FirstPost (AskedQ ρ w bd s bm blk dv [answers s, if Dk.may n.data.toList then 0 else 1, if (get n.data.toList s.F).isSome then 9 else 0, if 512 ≤ s.F.length then 7 else 0])) := by
  have hb := allocs_below [.cells #[.bool !M] 4, .cells #[.int .i64 1] 25,
        .cells #[.func (.func 44) #[.pointer (some ⟨bd, 0, none⟩)] #[], .func (.func 69) #[] #[.pointer (some ⟨w.heap.size, 0, none⟩), .pointer (some ⟨w.heap.size + 1, 0, none⟩)],
          .func (.func 50) #[] #[.pointer (some a1), .pointer (some a2)], .func (.func 51) #[] #[.pointer (some a1)], .func (.func 52) #[.pointer (some ⟨bd, 0, none⟩)] #[]] 72 (0, 0)] w
  have hat := allocs_at [.cells #[.bool !M] 4, .cells #[.int .i64 1] 25,
        .cells #[.func (.func 44) #[.pointer (some ⟨bd, 0, none⟩)] #[], .func (.func 69) #[] #[.pointer (some ⟨w.heap.size, 0, none⟩), .pointer (some ⟨w.heap.size + 1, 0, none⟩)],
          .func (.func 50) #[] #[.pointer (some a1), .pointer (some a2)], .func (.func 51) #[] #[.pointer (some a1)], .func (.func 52) #[.pointer (some ⟨bd, 0, none⟩)] #[]] 72 (0, 0)] w
  have hr := h.below hb
  have hbk := hat 2 _ rfl
  have hbs := (Array.getElem?_eq_some_iff.1 hbk).1
  have k1 := cell_of_block (i := 0) (hat 0 _ rfl)
  have k2 := cell_of_block (i := 0) (hat 1 _ rfl)
  have h1' := (hb.cell (cell_lt h1)).trans h1
  have h2' := (hb.cell (cell_lt h2)).trans h2
  have hc := first_calls (w.heap.size + 2) [.func (.func 44) #[.pointer (some ⟨bd, 0, none⟩)] #[], .func (.func 69) #[] #[.pointer (some ⟨w.heap.size, 0, none⟩), .pointer (some ⟨w.heap.size + 1, 0, none⟩)],
          .func (.func 50) #[] #[.pointer (some a1), .pointer (some a2)], .func (.func 51) #[] #[.pointer (some a1)], .func (.func 52) #[.pointer (some ⟨bd, 0, none⟩)] #[]]
      (AskedQ ρ _ bd s bm blk dv [answers s, if Dk.may n.data.toList then 0 else 1, if (get n.data.toList s.F).isSome then 9 else 0, if 512 ≤ s.F.length then 7 else 0]) _ hbk (by simp) (by
    have hMz : (if (!M) = true then (1 : Int) else 0) = if Dk.may n.data.toList then 0 else 1 := by rw [hM]; cases M <;> rfl
    refine asks_cons (ask_answers hr) (Below.refl _ _) hbs (fun e0 W1 b1 => ?_) (fun e0 W1 b1 => Proofs.YtjlchphbkmaacaaGreatDoor.asked_err hr b1 e0 (by simp [first, e0]))
    refine asks_cons (ask_wrong k1 k2 (cell_lt k1) (cell_lt k2)) b1 hbs (fun e1 W2 b2 => ?_) (fun e1 W2 b2 => Proofs.YtjlchphbkmaacaaGreatDoor.asked_err hr b2 e1 ?_)
    · rw [hMz] at e1
      refine asks_cons (ask_create1 hr hn h1' h2') b2 hbs (fun e2 W3 b3 => ?_) (fun e2 W3 b3 => Proofs.YtjlchphbkmaacaaGreatDoor.asked_err hr b3 e2 ?_)
      · refine asks_cons (ask_create2 hr h1') b3 hbs (fun e3 W4 b4 => ?_) (fun e3 W4 b4 => Proofs.YtjlchphbkmaacaaGreatDoor.asked_err hr b4 e3 ?_)
        · exact asks_burns hr hg b4 hbs (h.fresh (by omega)) (by simp only [first, e0, e1, e2, e3, if_true])
        · simp only [first, e0, e1, e2, e3, if_true, if_false]
      · simp only [first, e0, e1, e2, if_true, if_false]
    · rw [hMz] at e1 ⊢
      simp only [first, e0, e1, if_true, if_false])
  exact hc.mono fun e W' ⟨m, he, hq⟩ => ⟨m, he, hq.back hb⟩

set_option maxRecDepth 100000 in
set_option maxHeartbeats 300000 in
theorem create_any {ρ : Nat → Option Role} {w : World} {bd : Nat} {s : St} {bm : Nat} {blk : Nm → Nat} {dv : Nm → Value} (h : RepX ρ w bd s bm blk dv) (hg : Fine s) (n : ByteArray) (hn : n.size ≤ maxLen) :
    Calls Tryz.prog 17 #[.pointer (some ⟨bd, 0, none⟩), .string n] w (MethPost ρ w bd (create n.data.toList s)) := by
  have hmf : ∀ (fn : Fn) (first cap : Array Value) (w : World), (Instr.makeFunc fn first cap).run Tryz.prog w = .ok (.func fn first cap) w := fun _ _ _ _ => rfl
  have hnot : ∀ (x : Bool) (w : World), (Op.unary .not (.bool x)).run Tryz.prog w = .ok (.bool (!x)) w := fun _ _ => rfl
  have hb := allocs_below [.cells #[.pointer (some ⟨bd, 0, none⟩)] 24, .cells #[.string n] 9] w
  have hat := allocs_at [.cells #[.pointer (some ⟨bd, 0, none⟩)] 24, .cells #[.string n] 9] w
  have p1 : ((w.alloc (.cells #[.pointer (some ⟨bd, 0, none⟩)] 24)).alloc (.cells #[.string n] 9)).cell? ⟨w.heap.size, 0, none⟩ = some (.pointer (some ⟨bd, 0, none⟩)) := cell_of_block (i := 0) (hat 0 _ rfl)
  have p2 : ((w.alloc (.cells #[.pointer (some ⟨bd, 0, none⟩)] 24)).alloc (.cells #[.string n] 9)).cell? ⟨w.heap.size + 1, 0, none⟩ = some (.string n) := cell_of_block (i := 0) (hat 1 _ rfl)
  have hb : Below w.heap.size w ((w.alloc (.cells #[.pointer (some ⟨bd, 0, none⟩)] 24)).alloc (.cells #[.string n] 9)) := hb
  have H0 := Lib.hid h
  clear hat h
  go_enter Tryz.func17, Tryz.ntmps17
  go_wp2_with fail
  generalize (w.alloc (.cells #[.pointer (some ⟨bd, 0, none⟩)] 24)).alloc (.cells #[.string n] 9) = W at *
  have hr := H0.out.below hb
  have HS := Lib.hid (show ∀ V, Below W.heap.size W V → (V.cell? ⟨w.heap.size, 0, none⟩ = some (.pointer (some ⟨bd, 0, none⟩)) ∧ V.cell? ⟨w.heap.size + 1, 0, none⟩ = some (.string n)) from fun V hV => ⟨(hV.cell (cell_lt p1)).trans p1, (hV.cell (cell_lt p2)).trans p2⟩)
  have HSF := Lib.hid (show ∀ V, Fr ρ ρ W V → (V.cell? ⟨w.heap.size, 0, none⟩ = some (.pointer (some ⟨bd, 0, none⟩)) ∧ V.cell? ⟨w.heap.size + 1, 0, none⟩ = some (.string n)) from fun V hV =>
    ⟨(World.cell?_of_block (w := W) (hV.block w.heap.size (cell_lt p1) (H0.out.fresh (Nat.le_refl _))).1).trans p1, (World.cell?_of_block (w := W) (hV.block (w.heap.size + 1) (cell_lt p2) (H0.out.fresh (by omega))).1).trans p2⟩)
  have HR := Lib.hid hr
  have HB := Lib.hid hb
  clear hr hb p1 p2
  generalize hM : Dk.may n.data.toList = M at *
  have HM := Lib.hid hM
  clear hM
  refine wp_region_held_drew (S := fun w' => w'.cell? ⟨w.heap.size, 0, none⟩ = some (.pointer (some ⟨bd, 0, none⟩)) ∧ w'.cell? ⟨w.heap.size + 1, 0, none⟩ = some (.string n)) (by kernel_rfl) ?_ (fun hHeld => ?_)
  · exact HS.out _ (Below.refl _ _).drew
  refine wpAnyH_take (i := 0) (oi := _) (v := (.pointer (some ⟨bd, 0, none⟩))) rfl (by kernel_rfl) (by kernel_rfl) (by kernel_rfl) (fun _ _ _ h => h) (Or.inl ⟨by rfl, ?_⟩) (by assumption) ?_
  · intro w' hSw
    (try dsimp only at hSw)
    go_simp
  (try simp only [Act.put, List.setIfInBounds_toArray, List.set_cons_zero, List.set_cons_succ])
  refine wpAnyH_take (i := 1) (oi := _) (v := (.func (.func 44) #[.pointer (some ⟨bd, 0, none⟩)] #[])) rfl (by kernel_rfl) (by kernel_rfl) (by kernel_rfl) (fun _ _ _ h => h) (Or.inl ⟨by rfl, ?_⟩) (by assumption) ?_
  · intro w' hSw
    (try dsimp only at hSw)
    go_simp
  (try simp only [Act.put, List.setIfInBounds_toArray, List.set_cons_zero, List.set_cons_succ])
  refine wpAnyH_take (i := 2) (oi := _) (v := (.string n)) rfl (by kernel_rfl) (by kernel_rfl) (by kernel_rfl) (fun _ _ _ h => h) (Or.inl ⟨by rfl, ?_⟩) (by assumption) ?_
  · intro w' hSw
    (try dsimp only at hSw)
    go_simp
  (try simp only [Act.put, List.setIfInBounds_toArray, List.set_cons_zero, List.set_cons_succ])
  refine wpAnyH_take (i := 6) (oi := _) (v := (.func (.func 50) #[] #[.pointer (some ⟨w.heap.size, 0, none⟩), .pointer (some ⟨w.heap.size + 1, 0, none⟩)])) rfl (by kernel_rfl) (by kernel_rfl) (by kernel_rfl) (fun _ _ _ h => h) (Or.inl ⟨by rfl, ?_⟩) (by assumption) ?_
  · intro w' hSw
    (try dsimp only at hSw)
    go_simp
  (try simp only [Act.put, List.setIfInBounds_toArray, List.set_cons_zero, List.set_cons_succ])
  refine wpAnyH_take (i := 7) (oi := _) (v := (.func (.func 51) #[] #[.pointer (some ⟨w.heap.size, 0, none⟩)])) rfl (by kernel_rfl) (by kernel_rfl) (by kernel_rfl) (fun _ _ _ h => h) (Or.inl ⟨by rfl, ?_⟩) (by assumption) ?_
  · intro w' hSw
    (try dsimp only at hSw)
    go_simp
  (try simp only [Act.put, List.setIfInBounds_toArray, List.set_cons_zero, List.set_cons_succ])
  refine wpAnyH_take (i := 8) (oi := _) (v := (.pointer (some ⟨bd, 0, none⟩))) rfl (by kernel_rfl) (by kernel_rfl) (by kernel_rfl) (fun _ _ _ h => h) (Or.inl ⟨by rfl, ?_⟩) (by assumption) ?_
  · intro w' hSw
    (try dsimp only at hSw)
    go_simp
  (try simp only [Act.put, List.setIfInBounds_toArray, List.set_cons_zero, List.set_cons_succ])
  refine wpAnyH_take (i := 9) (oi := _) (v := (.func (.func 52) #[.pointer (some ⟨bd, 0, none⟩)] #[])) rfl (by kernel_rfl) (by kernel_rfl) (by kernel_rfl) (fun _ _ _ h => h) (Or.inl ⟨by rfl, ?_⟩) (by assumption) ?_
  · intro w' hSw
    (try dsimp only at hSw)
    go_simp
  (try simp only [Act.put, List.setIfInBounds_toArray, List.set_cons_zero, List.set_cons_succ])
  refine wpAnyH_ready (rs := [3]) (by kernel_rfl) (by simp) ?_
  refine AllReadyH.cons (o := _) rfl (fun K hK => ?_) AllReadyH.nil
  go_simp
  refine (may_any n _ hn).mono ?_
  rintro e w1 ⟨rfl, hb⟩
  have hb' : Below W.heap.size W w1 := ((Below.refl W.heap.size W).drew).trans hb
  clear hb
  rw [HM.out]
  refine hK.out _ _ ?_ (fun hHeld => ?_)
  · first | exact HSF.out _ (by assumption) | exact HS.out _ (by repeat (first | assumption | exact Below.refl _ _ | apply Below.drew | refine bel_alloc ?_ _))
  clear hK K
  (try simp only [Act.put, List.setIfInBounds_toArray, List.set_cons_zero, List.set_cons_succ])
  refine wpAnyH_take (i := 4) (oi := _) (v := (.bool (!M))) rfl (by kernel_rfl) (by kernel_rfl) (by kernel_rfl) (fun _ _ _ h => h) (Or.inl ⟨by rfl, ?_⟩) (by assumption) ?_
  · intro w' hSw
    (try dsimp only at hSw)
    go_simp
  (try simp only [Act.put, List.setIfInBounds_toArray, List.set_cons_zero, List.set_cons_succ])
  refine wpAnyH_ready (rs := [5]) (by kernel_rfl) (by simp) ?_
  refine AllReadyH.cons (o := _) rfl (fun K hK => ?_) AllReadyH.nil
  go_simp
  refine (wrong_any _ _ _).mono ?_
  rintro e w' ⟨rfl, rfl⟩
  refine hK.out _ _ ?_ (fun hHeld => ?_)
  · first | exact HSF.out _ (by assumption) | exact HS.out _ (by repeat (first | assumption | exact Below.refl _ _ | apply Below.drew | refine bel_alloc ?_ _))
  clear hK K
  (try simp only [Act.put, List.setIfInBounds_toArray, List.set_cons_zero, List.set_cons_succ])
  refine wpAnyH_ready (rs := [10]) (by kernel_rfl) (by simp) ?_
  refine AllReadyH.cons (o := _) rfl (fun K hK => ?_) AllReadyH.nil
  go_simp
  refine hK.out _ _ ?_ (fun hHeld => ?_)
  · first | exact HSF.out _ (by assumption) | exact HS.out _ (by repeat (first | assumption | exact Below.refl _ _ | apply Below.drew | refine bel_alloc ?_ _))
  clear hK K
  (try simp only [Act.put, List.setIfInBounds_toArray, List.set_cons_zero, List.set_cons_succ])
  refine wpAnyH_ready (rs := [11]) (by kernel_rfl) (by simp) ?_
  refine AllReadyH.cons (o := _) rfl (fun K hK => ?_) AllReadyH.nil
  go_simp
  refine (create_first (w := w1) (HR.out.below hb') hg hn M HM.out (HS.out w1 hb').1 (HS.out w1 hb').2).mono ?_
  rintro e w2 ⟨m, rfl, hq⟩
  have hq2 := hq.back hb'
  clear hq
  have hfr : Fr ρ ρ W w2 := hq2.1
  have HQ := Lib.hid hq2
  clear hq2
  refine hK.out _ _ ?_ (fun hHeld => ?_)
  · first | exact HSF.out _ (by assumption) | exact HS.out _ (by repeat (first | assumption | exact Below.refl _ _ | apply Below.drew | refine bel_alloc ?_ _))
  clear hK K
  (try simp only [Act.put, List.setIfInBounds_toArray, List.set_cons_zero, List.set_cons_succ])
  refine wpAnyH_ready (rs := [12]) (by kernel_rfl) (by simp) ?_
  refine AllReadyH.cons (o := _) rfl (fun K hK => ?_) AllReadyH.nil
  go_simp
  refine hK.out _ _ ?_ (fun hHeld => ?_)
  · first | exact HSF.out _ (by assumption) | exact HS.out _ (by repeat (first | assumption | exact Below.refl _ _ | apply Below.drew | refine bel_alloc ?_ _))
  clear hK K
  (try simp only [Act.put, List.setIfInBounds_toArray, List.set_cons_zero, List.set_cons_succ])
  refine wpAnyH_done (by kernel_rfl) ?_ _
  obtain ⟨hfr, hcase⟩ := HQ.out
  clear HQ
  have hS2 := HSF.out w2 hfr
  have hfr2 : Fr ρ ρ w w2 := (Fr.of_below HB.out).trans hfr
  have HF := Lib.hid hfr2
  clear hfr2 hfr
  rcases hcase with ⟨hl, rfl, hr⟩ | ⟨hl, h0, rfl, hr⟩ | ⟨hl, h0, rfl, hr⟩
  · have hne : (first [answers s, if Dk.may n.data.toList then 0 else 1, if (get n.data.toList s.F).isSome then 9 else 0, if 512 ≤ s.F.length then 7 else 0] == 0) = false := by simpa using hl
    have HP := Lib.hid (Dk.asked_err (k := (fun s => { s with F := put n.data.toList ⟨[], 0⟩ s.F })) (s := s) hl)
    generalize hE : first [answers s, if Dk.may n.data.toList then 0 else 1, if (get n.data.toList s.F).isSome then 9 else 0, if 512 ≤ s.F.length then 7 else 0] = E at *
    have HR2 := Lib.hid hr
    clear hr hE hl hS2
    go_wp2_with fail
    go_ret
    show MethPost ρ w bd (create n.data.toList s) _ _
    unfold create
    rw [HP.out]
    exact ⟨rfl, ρ, HR2.out.rep, HF.out⟩
  · have HP := Lib.hid (Dk.asked_off (k := (fun s => { s with F := put n.data.toList ⟨[], 0⟩ s.F })) (s := s) hl h0)
    have HR2 := Lib.hid hr
    clear hr h0 hl hS2
    go_wp2_with fail
    go_ret
    show MethPost ρ w bd (create n.data.toList s) _ _
    unfold create
    rw [HP.out]
    exact ⟨rfl, ρ, HR2.out.rep, HF.out⟩
  · have HP := Lib.hid (Dk.asked_ok (k := (fun s => { s with F := put n.data.toList ⟨[], 0⟩ s.F })) (s := s) hl h0)
    have hv := hr.below (bel_alloc (Below.refl w2.heap.size w2) (.cells #[.slice none 0 0, .int .i64 0] 75)).drew
    obtain ⟨w3, hrun, hm3, ht3⟩ := hv.hm.store (t := 56) (e := 76) string_law Tryz.underlying56 (by have := hg.files; unfold maxLen; show s.F.length < _; omega) (WideMaps.keyOf_string_mk Tryz.underlying9 hn) (val := .pointer (some ⟨w2.heap.size, 0, none⟩)) (d := .held w2.heap.size) (ps := []) rfl
    have c0 := hr.c0
    have HR2 := Lib.hid hr
    have HM3 := Lib.hid hm3
    have HT3 := Lib.hid ht3
    have HS2 := Lib.hid hS2
    have HC0 := Lib.hid c0
    clear hr hv hm3 ht3 hl h0 hS2 c0
    go_wp2_with fail
    refine wp_region_held_drew (S := fun w' => w'.cell? ⟨w.heap.size, 0, none⟩ = some (.pointer (some ⟨bd, 0, none⟩)) ∧ w'.cell? ⟨w.heap.size + 1, 0, none⟩ = some (.string n) ∧ w'.cell? ⟨bd, 0, none⟩ = some (.map (some bm))) (by kernel_rfl) ?_ (fun hHeld => ?_)
    · exact ⟨HS2.out.1, HS2.out.2, HC0.out⟩
    refine wpAnyH_take (i := 0) (oi := _) (v := (.pointer (some ⟨bd, 0, none⟩))) rfl (by kernel_rfl) (by kernel_rfl) (by kernel_rfl) (fun _ _ _ h => h) (Or.inl ⟨by rfl, ?_⟩) (by assumption) ?_
    · intro w' hSw
      (try dsimp only at hSw)
      go_simp
    (try simp only [Act.put, List.setIfInBounds_toArray, List.set_cons_zero, List.set_cons_succ])
    refine wpAnyH_take (i := 1) (oi := _) (v := (.pointer (some ⟨bd, 0, none⟩))) rfl (by kernel_rfl) (by kernel_rfl) (by kernel_rfl) (fun _ _ _ h => h) (Or.inl ⟨by rfl, ?_⟩) (by assumption) ?_
    · intro w' hSw
      (try dsimp only at hSw)
      go_simp
    (try simp only [Act.put, List.setIfInBounds_toArray, List.set_cons_zero, List.set_cons_succ])
    refine wpAnyH_take (i := 2) (oi := _) (v := (.pointer (some ⟨bd, 0, none⟩))) rfl (by kernel_rfl) (by kernel_rfl) (by kernel_rfl) (fun _ _ _ h => h) (Or.inl ⟨by rfl, ?_⟩) (by assumption) ?_
    · intro w' hSw
      (try dsimp only at hSw)
      go_simp
    (try simp only [Act.put, List.setIfInBounds_toArray, List.set_cons_zero, List.set_cons_succ])
    refine wpAnyH_take (i := 3) (oi := _) (v := (.map (some bm))) rfl (by kernel_rfl) (by kernel_rfl) (by kernel_rfl) (fun _ _ _ h => h) (Or.inl ⟨by rfl, ?_⟩) (by assumption) ?_
    · intro w' hSw
      (try dsimp only at hSw)
      go_simp
    (try simp only [Act.put, List.setIfInBounds_toArray, List.set_cons_zero, List.set_cons_succ])
    refine wpAnyH_take (i := 4) (oi := _) (v := (.string n)) rfl (by kernel_rfl) (by kernel_rfl) (by kernel_rfl) (fun _ _ _ h => h) (Or.inl ⟨by rfl, ?_⟩) (by assumption) ?_
    · intro w' hSw
      (try dsimp only at hSw)
      go_simp
    (try simp only [Act.put, List.setIfInBounds_toArray, List.set_cons_zero, List.set_cons_succ])
    refine wpAnyH_take (i := 5) (oi := _) (v := (.agg #[.slice none 0 0, .int .i64 0])) rfl (by kernel_rfl) (by kernel_rfl) (by kernel_rfl) (fun _ _ _ h => h) (Or.inl ⟨by rfl, ?_⟩) (by assumption) ?_
    · intro w' hSw
      (try dsimp only at hSw)
      go_simp
    (try simp only [Act.put, List.setIfInBounds_toArray, List.set_cons_zero, List.set_cons_succ])
    refine wpAnyH_ready (rs := [6]) (by kernel_rfl) (by simp) ?_
    refine AllReadyH.cons (o := _) rfl (fun K hK => ?_) AllReadyH.nil
    go_simp
    refine hK.out _ _ ?_ (fun hHeld => ?_)
    · exact ⟨cell_alloc _ HS2.out.1, cell_alloc _ HS2.out.2, cell_alloc _ HC0.out⟩
    clear hK K
    (try simp only [Act.put, List.setIfInBounds_toArray, List.set_cons_zero, List.set_cons_succ])
    refine wpAnyH_ready (rs := [7]) (by kernel_rfl) (by simp) ?_
    refine AllReadyH.cons (o := _) rfl (fun K hK => ?_) AllReadyH.nil
    go_simp
    refine hK.out _ _ ?_ (fun hHeld => ?_)
    · have hbm := H0.out.lt _ _ H0.out.rm
      have hbd := H0.out.ne_map
      exact ⟨cell_grown HT3.out.grown (cell_alloc _ HS2.out.1) (by show w.heap.size ≠ bm; omega), cell_grown HT3.out.grown (cell_alloc _ HS2.out.2) (by show w.heap.size + 1 ≠ bm; omega), cell_grown HT3.out.grown (cell_alloc _ HC0.out) (fun e => hbd e.symm)⟩
    clear hK K
    (try simp only [Act.put, List.setIfInBounds_toArray, List.set_cons_zero, List.set_cons_succ])
    refine wpAnyH_done (by kernel_rfl) ?_ _
    go_wp2_with fail
    go_ret
    show MethPost ρ w bd (create n.data.toList s) _ _
    unfold create
    rw [HP.out]
    have hm3 := HM3.out
    rw [show dat blk (Dk.less s).F = dat blk s.F from rfl, dat_put (f := ⟨[], 0⟩)] at hm3
    have hr := HR2.out
    have hg3 := HT3.out.grown
    have hbm := hr.lt _ _ hr.rm
    obtain ⟨ρ', h1, h2⟩ := hr.create (w' := w3) n.data.toList w2.heap.size (Nat.le_refl _)
      ((hg3.block w2.heap.size (by simp) (fun e => by have := Option.some.inj e; omega)).trans (heap_alloc_new w2 _)) (tight_dat hm3)
      ⟨hg3.os, hg3.tape, hg3.output, Nat.le_trans (by simp) hg3.size, fun b hb hne => (hg3.block b (by simp; omega) (fun e => hne (Option.some.inj e))).trans (Below.heap_alloc w2 _ b hb)⟩
    exact ⟨rfl, ρ', h1.rep, HF.out.trans h2⟩
end Go.Proofs.YtjlchphbkmaacaaGreatDoor
