/- Append. -/
import Derived.Test.YtjlchphbkmaacaaGreatDoorEe
import Derived.Test.YtjlchphbkmaacaaGreatDoorRl
set_option linter.unusedVariables false
set_option linter.unusedSimpArgs false
namespace Go.Proofs.YtjlchphbkmaacaaGreatDoor
open Go.RowKit Go.MapKept Go.ChangeMaps Go.Maps
attribute [local go_sem ↓] Go.wp_at_zero Go.wp_at_succ
open Dk

/-- The four questions of Append. -/
theorem append_first {ρ : Nat → Option Role} {w : World} {bd : Nat} {s : St} {bm : Nat} {blk : Nm → Nat} {dv : Nm → Value} (h : RepX ρ w bd s bm blk dv) (hg : Fine s) {a1 a2 : Addr} {n : ByteArray} (hn : n.size ≤ maxLen) {p : Option Addr} {m c : Nat} (hm : m ≤ maxLen)
    (h1 : w.cell? a1 = some (.slice p m c)) (h2 : w.cell? a2 = some (.pointer (some ⟨bd, 0, none⟩))) {l : List Int} (hl : l = [answers s, there n.data.toList s, if s.quota - used s < m then 7 else 0]) :
    Calls Tryz.prog 43 #[.slice (some ⟨w.heap.size + 1 + 1, 0, none⟩) 4 4]
      (((w.alloc (.cells #[.pointer (some ⟨bd, 0, none⟩)] 24)).alloc (.cells #[.string n] 9)).alloc (.cells #[.func (.func 44) #[.pointer (some ⟨bd, 0, none⟩)] #[], .func (.func 61) #[] #[.pointer (some ⟨w.heap.size + 1, 0, none⟩), .pointer (some ⟨w.heap.size, 0, none⟩)], .func (.func 53) #[] #[.pointer (some a1), .pointer (some a2)], .func (.func 52) #[.pointer (some ⟨bd, 0, none⟩)] #[]] 72 (0, 0)))
      (FirstPost (AskedQ ρ w bd s bm blk dv l)) := by
  subst hl
  have hb := allocs_below [.cells #[.pointer (some ⟨bd, 0, none⟩)] 24, .cells #[.string n] 9, .cells #[.func (.func 44) #[.pointer (some ⟨bd, 0, none⟩)] #[], .func (.func 61) #[] #[.pointer (some ⟨w.heap.size + 1, 0, none⟩), .pointer (some ⟨w.heap.size, 0, none⟩)], .func (.func 53) #[] #[.pointer (some a1), .pointer (some a2)], .func (.func 52) #[.pointer (some ⟨bd, 0, none⟩)] #[]] 72 (0, 0)] w
  have hat := allocs_at [.cells #[.pointer (some ⟨bd, 0, none⟩)] 24, .cells #[.string n] 9, .cells #[.func (.func 44) #[.pointer (some ⟨bd, 0, none⟩)] #[], .func (.func 61) #[] #[.pointer (some ⟨w.heap.size + 1, 0, none⟩), .pointer (some ⟨w.heap.size, 0, none⟩)], .func (.func 53) #[] #[.pointer (some a1), .pointer (some a2)], .func (.func 52) #[.pointer (some ⟨bd, 0, none⟩)] #[]] 72 (0, 0)] w
  have hr := h.below hb
  have hbk := hat 2 _ rfl
  have hbs := (Array.getElem?_eq_some_iff.1 hbk).1
  have k1 := cell_of_block (i := 0) (hat 0 _ rfl)
  have k2 := cell_of_block (i := 0) (hat 1 _ rfl)
  have h1' := (hb.cell (cell_lt h1)).trans h1
  have h2' := (hb.cell (cell_lt h2)).trans h2
  have hc := first_calls (w.heap.size + 2) [.func (.func 44) #[.pointer (some ⟨bd, 0, none⟩)] #[], .func (.func 61) #[] #[.pointer (some ⟨w.heap.size + 1, 0, none⟩), .pointer (some ⟨w.heap.size, 0, none⟩)], .func (.func 53) #[] #[.pointer (some a1), .pointer (some a2)], .func (.func 52) #[.pointer (some ⟨bd, 0, none⟩)] #[]]
      (AskedQ ρ _ bd s bm blk dv [answers s, there n.data.toList s, if s.quota - used s < m then 7 else 0]) _ hbk (by simp) (by
    refine asks_cons (ask_answers hr) (Below.refl _ _) hbs (fun e0 W1 b1 => ?_) (fun e0 W1 b1 => Proofs.YtjlchphbkmaacaaGreatDoor.asked_err hr b1 e0 (by simp [first, e0]))
    refine asks_cons (ask_there hr hn k2 k1 (cell_lt k2) (cell_lt k1)) b1 hbs (fun e1 W2 b2 => ?_) (fun e1 W2 b2 => Proofs.YtjlchphbkmaacaaGreatDoor.asked_err hr b2 e1 (by simp [first, e0, e1]))
    refine asks_cons (n := if s.quota - used s < m then 7 else 0) ⟨_, _, _, rfl, (enters_of Tryz.func53 (by kernel_rfl) rfl) _, fun V hV => append1_any (hr.below hV) hg _ _ p m c ((hV.cell (cell_lt h1')).trans h1') ((hV.cell (cell_lt h2')).trans h2') hm _ rfl⟩ b2 hbs (fun e2 W3 b3 => ?_) (fun e2 W3 b3 => Proofs.YtjlchphbkmaacaaGreatDoor.asked_err hr b3 e2 ?_)
    · exact asks_burns hr hg b3 hbs (h.fresh (by omega)) (by simp only [first, e0, e1, e2, if_true])
    · simp only [first, e0, e1, e2, if_true, if_false])
  exact hc.mono fun e W' ⟨m, he, hq⟩ => ⟨m, he, hq.back hb⟩
theorem append_first_drew {ρ : Nat → Option Role} {w : World} {bd : Nat} {s : St} {bm : Nat} {blk : Nm → Nat} {dv : Nm → Value} (h : RepX ρ w bd s bm blk dv) (hg : Fine s) {a1 a2 : Addr} {n : ByteArray} (hn : n.size ≤ maxLen) {p : Option Addr} {m c : Nat} (hm : m ≤ maxLen)
    (h1 : w.cell? a1 = some (.slice p m c)) (h2 : w.cell? a2 = some (.pointer (some ⟨bd, 0, none⟩))) {l : List Int} (hl : l = [answers s, there n.data.toList s, if s.quota - used s < m then 7 else 0]) :
    Calls Tryz.prog 43 #[.slice (some ⟨w.heap.size + 1 + 1, 0, none⟩) 4 4]
      (((w.alloc (.cells #[.pointer (some ⟨bd, 0, none⟩)] 24)).alloc (.cells #[.string n] 9)).alloc (.cells #[.func (.func 44) #[.pointer (some ⟨bd, 0, none⟩)] #[], .func (.func 61) #[] #[.pointer (some ⟨w.heap.size + 1, 0, none⟩), .pointer (some ⟨w.heap.size, 0, none⟩)], .func (.func 53) #[] #[.pointer (some a1), .pointer (some a2)], .func (.func 52) #[.pointer (some ⟨bd, 0, none⟩)] #[]] 72 (0, 0))).drew
      (FirstPost (AskedQ ρ w bd s bm blk dv l)) :=
  (append_first (w := w.drew) (h.below (Below.refl w.heap.size w).drew) hg hn hm h1 h2 hl).mono fun e W' ⟨m, he, hq⟩ => ⟨m, he, hq.back (Below.refl w.heap.size w).drew⟩

set_option maxRecDepth 100000 in
set_option maxHeartbeats 2000000 in
theorem append_any {ρ : Nat → Option Role} {w : World} {bd : Nat} {s : St} {bm : Nat} {blk : Nm → Nat} {dv : Nm → Value} (h : RepX ρ w bd s bm blk dv) (hg : Fine s) (n : ByteArray) (hn : n.size ≤ maxLen)
    (p : Option Addr) (m c : Nat) (ns : List UInt8) (hp : BytesAt w p m ns) (hpc : p = none → c = 0) (hpr : ∀ a, p = some a → ρ a.block = none) (hm : m ≤ 140737488355328) :
    Calls Tryz.prog 18 #[.pointer (some ⟨bd, 0, none⟩), .string n, .slice p m c] w (MethPost ρ w bd (append n.data.toList ns s)) := by
  have hmf : ∀ (fn : Fn) (first cap : Array Value) (w : World), (Instr.makeFunc fn first cap).run Tryz.prog w = .ok (.func fn first cap) w := fun _ _ _ _ => rfl
  have hb := allocs_below [.cells #[.pointer (some ⟨bd, 0, none⟩)] 24, .cells #[.slice p m c] 31] w
  have hat := allocs_at [.cells #[.pointer (some ⟨bd, 0, none⟩)] 24, .cells #[.slice p m c] 31] w
  have p1 : ((w.alloc (.cells #[.pointer (some ⟨bd, 0, none⟩)] 24)).alloc (.cells #[.slice p m c] 31)).cell? ⟨w.heap.size, 0, none⟩ = some (.pointer (some ⟨bd, 0, none⟩)) := cell_of_block (i := 0) (hat 0 _ rfl)
  have p2 : ((w.alloc (.cells #[.pointer (some ⟨bd, 0, none⟩)] 24)).alloc (.cells #[.slice p m c] 31)).cell? ⟨w.heap.size + 1, 0, none⟩ = some (.slice p m c) := cell_of_block (i := 0) (hat 1 _ rfl)
  have hb : Below w.heap.size w ((w.alloc (.cells #[.pointer (some ⟨bd, 0, none⟩)] 24)).alloc (.cells #[.slice p m c] 31)) := hb
  have H0 := Lib.hid h
  have HP0 := Lib.hid hp
  have HPC := Lib.hid hpc
  have HPR := Lib.hid hpr
  clear hat h hp hpc hpr
  go_enter Tryz.func18, Tryz.ntmps18
  go_wp2_with fail
  generalize (w.alloc (.cells #[.pointer (some ⟨bd, 0, none⟩)] 24)).alloc (.cells #[.slice p m c] 31) = W at *
  have hr := H0.out.below hb
  have HS := Lib.hid (show ∀ V, Below W.heap.size W V → (V.cell? ⟨w.heap.size, 0, none⟩ = some (.pointer (some ⟨bd, 0, none⟩)) ∧ V.cell? ⟨w.heap.size + 1, 0, none⟩ = some (.slice p m c)) from fun V hV => ⟨(hV.cell (cell_lt p1)).trans p1, (hV.cell (cell_lt p2)).trans p2⟩)
  have HSF := Lib.hid (show ∀ V, Fr ρ ρ W V → (V.cell? ⟨w.heap.size, 0, none⟩ = some (.pointer (some ⟨bd, 0, none⟩)) ∧ V.cell? ⟨w.heap.size + 1, 0, none⟩ = some (.slice p m c)) from fun V hV =>
    ⟨(World.cell?_of_block (w := W) (hV.block w.heap.size (cell_lt p1) (H0.out.fresh (Nat.le_refl _))).1).trans p1, (World.cell?_of_block (w := W) (hV.block (w.heap.size + 1) (cell_lt p2) (H0.out.fresh (by omega))).1).trans p2⟩)
  have HR := Lib.hid hr
  have HB := Lib.hid hb
  have HW := Lib.hid (show W.cell? ⟨w.heap.size + 1, 0, none⟩ = some (.slice p m c) ∧ W.cell? ⟨w.heap.size, 0, none⟩ = some (.pointer (some ⟨bd, 0, none⟩)) from ⟨p2, p1⟩)
  clear hr hb p1 p2
  refine wp_region_held_drew (S := fun w' => w'.cell? ⟨w.heap.size, 0, none⟩ = some (.pointer (some ⟨bd, 0, none⟩)) ∧ w'.cell? ⟨w.heap.size + 1, 0, none⟩ = some (.slice p m c)) (by kernel_rfl) ?_ (fun hHeld => ?_)
  · exact HS.out _ (Below.refl _ _).drew
  refine wpAnyH_take (i := 0) (oi := _) (v := (.pointer (some ⟨bd, 0, none⟩))) rfl (by kernel_rfl) (by kernel_rfl) (by kernel_rfl) (fun _ _ _ h => h) (Or.inl ⟨by rfl, ?_⟩) (by assumption) ?_
  · intro w' hSw
    (try dsimp only at hSw)
    go_simp
  (try simp only [Act.put, List.setIfInBounds_toArray, List.set_cons_zero, List.set_cons_succ])
  refine wpAnyH_take (i := 1) (oi := _) (v := (.func (.func 44) #[.pointer (some ⟨bd, 0, none⟩)] #[])) rfl (by kernel_rfl) (by kernel_rfl) (by kernel_rfl) (fun _ _ _ h => h) (Or.inl ⟨by rfl, ?_⟩) (by assumption) ?_
  · intro w' hSw
    (try dsimp only at hSw)
    go_simp
  (try simp only [Act.put, List.setIfInBounds_toArray, List.set_cons_zero, List.set_cons_succ])
  refine wpAnyH_take (i := 2) (oi := _) (v := (.pointer (some ⟨bd, 0, none⟩))) rfl (by kernel_rfl) (by kernel_rfl) (by kernel_rfl) (fun _ _ _ h => h) (Or.inl ⟨by rfl, ?_⟩) (by assumption) ?_
  · intro w' hSw
    (try dsimp only at hSw)
    go_simp
  (try simp only [Act.put, List.setIfInBounds_toArray, List.set_cons_zero, List.set_cons_succ])
  refine wpAnyH_take (i := 3) (oi := _) (v := (.string n)) rfl (by kernel_rfl) (by kernel_rfl) (by kernel_rfl) (fun _ _ _ h => h) (Or.inl ⟨by rfl, ?_⟩) (by assumption) ?_
  · intro w' hSw
    (try dsimp only at hSw)
    go_simp
  (try simp only [Act.put, List.setIfInBounds_toArray, List.set_cons_zero, List.set_cons_succ])
  refine wpAnyH_take (i := 5) (oi := _) (v := (.func (.func 53) #[] #[.pointer (some ⟨w.heap.size + 1, 0, none⟩), .pointer (some ⟨w.heap.size, 0, none⟩)])) rfl (by kernel_rfl) (by kernel_rfl) (by kernel_rfl) (fun _ _ _ h => h) (Or.inl ⟨by rfl, ?_⟩) (by assumption) ?_
  · intro w' hSw
    (try dsimp only at hSw)
    go_simp
  (try simp only [Act.put, List.setIfInBounds_toArray, List.set_cons_zero, List.set_cons_succ])
  refine wpAnyH_take (i := 6) (oi := _) (v := (.pointer (some ⟨bd, 0, none⟩))) rfl (by kernel_rfl) (by kernel_rfl) (by kernel_rfl) (fun _ _ _ h => h) (Or.inl ⟨by rfl, ?_⟩) (by assumption) ?_
  · intro w' hSw
    (try dsimp only at hSw)
    go_simp
  (try simp only [Act.put, List.setIfInBounds_toArray, List.set_cons_zero, List.set_cons_succ])
  refine wpAnyH_take (i := 7) (oi := _) (v := (.func (.func 52) #[.pointer (some ⟨bd, 0, none⟩)] #[])) rfl (by kernel_rfl) (by kernel_rfl) (by kernel_rfl) (fun _ _ _ h => h) (Or.inl ⟨by rfl, ?_⟩) (by assumption) ?_
  · intro w' hSw
    (try dsimp only at hSw)
    go_simp
  (try simp only [Act.put, List.setIfInBounds_toArray, List.set_cons_zero, List.set_cons_succ])
  refine wpAnyH_ready (rs := [4]) (by kernel_rfl) (by simp) ?_
  refine AllReadyH.cons (o := _) rfl (fun K hK => ?_) AllReadyH.nil
  go_simp
  refine (there_any _ n _ ⟨_, rfl⟩).mono ?_
  rintro e w1 ⟨rfl, rfl⟩
  (try simp only [World.setCell_drew])
  refine hK.out _ _ ?_ (fun hHeld => ?_)
  · first | exact HSF.out _ (by assumption) | exact HS.out _ (by repeat (first | assumption | exact Below.refl _ _ | apply Below.drew | refine bel_alloc ?_ _))
  clear hK K
  (try simp only [Act.put, List.setIfInBounds_toArray, List.set_cons_zero, List.set_cons_succ])
  refine wpAnyH_ready (rs := [8]) (by kernel_rfl) (by simp) ?_
  refine AllReadyH.cons (o := _) rfl (fun K hK => ?_) AllReadyH.nil
  go_simp
  refine hK.out _ _ ?_ (fun hHeld => ?_)
  · first | exact HSF.out _ (by assumption) | exact HS.out _ (by repeat (first | assumption | exact Below.refl _ _ | apply Below.drew | refine bel_alloc ?_ _))
  clear hK K
  (try simp only [Act.put, List.setIfInBounds_toArray, List.set_cons_zero, List.set_cons_succ])
  refine wpAnyH_ready (rs := [9]) (by kernel_rfl) (by simp) ?_
  refine AllReadyH.cons (o := _) rfl (fun K hK => ?_) AllReadyH.nil
  go_simp
  refine (append_first_drew HR.out hg hn (by unfold maxLen; omega) HW.out.1 HW.out.2 (l := [answers s, there n.data.toList s, if s.quota - used s < ns.length then 7 else 0]) (by rw [HP0.out.len])).mono ?_
  rintro e w2 ⟨z, rfl, hq⟩
  have hfr : Fr ρ ρ W w2 := hq.1
  have HQ := Lib.hid hq
  clear hq
  refine hK.out _ _ ?_ (fun hHeld => ?_)
  · first | exact HSF.out _ (by assumption) | exact HS.out _ (by repeat (first | assumption | exact Below.refl _ _ | apply Below.drew | refine bel_alloc ?_ _))
  clear hK K
  (try simp only [Act.put, List.setIfInBounds_toArray, List.set_cons_zero, List.set_cons_succ])
  refine wpAnyH_ready (rs := [10]) (by kernel_rfl) (by simp) ?_
  refine AllReadyH.cons (o := _) rfl (fun K hK => ?_) AllReadyH.nil
  go_simp
  refine hK.out _ _ ?_ (fun hHeld => ?_)
  · first | exact HSF.out _ (by assumption) | exact HS.out _ (by repeat (first | assumption | exact Below.refl _ _ | apply Below.drew | refine bel_alloc ?_ _))
  clear hK K
  (try simp only [Act.put, List.setIfInBounds_toArray, List.set_cons_zero, List.set_cons_succ])
  refine wpAnyH_done (by kernel_rfl) ?_ _
  obtain ⟨hfr, hcase⟩ := HQ.out
  clear HQ
  have hS2 := HSF.out w2 hfr
  have hfr2 : Fr ρ ρ w w2 := (Fr.of_below HB.out).trans hfr
  have HF := Lib.hid hfr2
  clear hfr2 hfr
  rcases hcase with ⟨hl, rfl, hr⟩ | ⟨hl, h0, rfl, hr⟩ | ⟨hl, h0, rfl, hr⟩
  · have hne : (first [answers s, there n.data.toList s, if s.quota - used s < ns.length then 7 else 0] == 0) = false := by simpa using hl
    have HP := Lib.hid (Dk.asked_err (k := (fun s => { s with F := setF n.data.toList ⟨((get n.data.toList s.F).getD ⟨[], 0⟩).b ++ ns, ((get n.data.toList s.F).getD ⟨[], 0⟩).fast⟩ s.F })) (s := s) hl)
    generalize hE : first [answers s, there n.data.toList s, if s.quota - used s < ns.length then 7 else 0] = E at *
    have HR2 := Lib.hid hr
    clear hr hE hl hS2
    go_wp2_with fail
    go_ret
    show MethPost ρ w bd (append n.data.toList ns s) _ _
    unfold append
    rw [HP.out]
    exact ⟨rfl, ρ, HR2.out.rep, HF.out⟩
  · have HP := Lib.hid (Dk.asked_off (k := (fun s => { s with F := setF n.data.toList ⟨((get n.data.toList s.F).getD ⟨[], 0⟩).b ++ ns, ((get n.data.toList s.F).getD ⟨[], 0⟩).fast⟩ s.F })) (s := s) hl h0)
    have HR2 := Lib.hid hr
    clear hr h0 hl hS2
    go_wp2_with fail
    go_ret
    show MethPost ρ w bd (append n.data.toList ns s) _ _
    unfold append
    rw [HP.out]
    exact ⟨rfl, ρ, HR2.out.rep, HF.out⟩
  · have HP := Lib.hid (Dk.asked_ok (k := (fun s => { s with F := setF n.data.toList ⟨((get n.data.toList s.F).getD ⟨[], 0⟩).b ++ ns, ((get n.data.toList s.F).getD ⟨[], 0⟩).fast⟩ s.F })) (s := s) hl h0)
    obtain ⟨f, hf, _⟩ := there_get hl
    have hf' : get n.data.toList (Dk.less s).F = some f := hf
    have hx := get_mem hf'
    have c0 := hr.c0
    have c4 := hr.g0 hx
    have hrow := hr.hv _ hx
    have hblk := hr.hf _ hx
    simp only at c4 hrow hblk
    have hbig := hg.size_le hf
    have hmq : ns.length ≤ 4194304 := by
      have h3 := first_third hl
      split at h3
      · cases h3
      · have h4 := hg.q1
        omega
    have hrole := hr.rf _ hx
    simp only at hrole
    generalize hgb : blk n.data.toList = g at *
    generalize hV : dv n.data.toList = V at *
    have hbytes : BytesAt w2 p m ns := HP0.out.keep fun a e hlt => (HF.out.block a.block hlt (HPR.out a e)).1
    obtain ⟨v', w3, hrun, hown3, hgr3, hat3⟩ := app_bytes w2.drew V f.b ns hrow p m c (hbytes.keep fun _ _ _ => rfl) HPC.out (by have := HP0.out.len; omega) 31
    obtain ⟨p', c', rfl⟩ := own_slice hown3
    have hvne : V.ownBlock ≠ some g := fun e => by
      have h1 := hr.rv _ hx g (by simp only; rw [hV]; exact e)
      simp only at h1
      rw [hrole] at h1
      cases h1
    have hblk3 : w3.heap[g]? = w2.heap[g]? := hgr3.block g (Array.getElem?_eq_some_iff.1 hblk).1 (fun e => hvne e.symm)
    have c5 : w3.cell? ⟨g, 0, none⟩ = some V := (World.cell?_of_block (w := w2) hblk3).trans c4
    have f5 : w3.frozen? ⟨g, 0, none⟩ = false := frozen_of_block (hblk3.trans hblk)
    have hlook : ∀ V', Below w2.heap.size w2 V' → (Instr.lookup 56 (.map (some bm)) (.string n) false).run Tryz.prog V' = .ok (.pointer (some ⟨g, 0, none⟩)) V' := fun V' hV' => by
      have := (hr.below hV').look n hn
      rw [hf', hgb] at this
      exact this
    have hlook3 : (Instr.lookup 56 (.map (some bm)) (.string n) false).run Tryz.prog w3 = .ok (.pointer (some ⟨g, 0, none⟩)) w3 := by
      have hm3 : w3.ownsMap Tryz.prog 9 Rp bm s.F.length (dat blk s.F) := ownsMap_block hr.hm (hgr3.block bm (hr.lt _ _ hr.rm) (fun e => by
        have h1 := hr.rv _ hx bm (by simp only; rw [hV]; exact e.symm)
        rw [hr.rm] at h1
        cases h1))
      have := map_look hm3 n hn
      rw [show get n.data.toList s.F = some f from hf, hgb] at this
      exact this
    have hS3 : w3.cell? ⟨w.heap.size, 0, none⟩ = some (.pointer (some ⟨bd, 0, none⟩)) ∧ w3.cell? ⟨w.heap.size + 1, 0, none⟩ = some (.slice p m c) ∧ w3.cell? ⟨bd, 0, none⟩ = some (.map (some bm)) := by
      have hfar : ∀ {a : Addr} {u : Value}, w2.cell? a = some u → (V.ownBlock ≠ some a.block) → w3.cell? a = some u := fun {a u} hc hne => (World.cell?_of_block (w := w2) (hgr3.block a.block (cell_lt hc) (fun e => hne e.symm))).trans hc
      have hVr : ∀ b, V.ownBlock = some b → ρ b = some (.data n.data.toList) := fun b e => hr.rv _ hx b (by simp only; rw [hV]; exact e)
      refine ⟨hfar hS2.1 fun e => ?_, hfar hS2.2 fun e => ?_, hfar c0 fun e => ?_⟩
      · have := hVr _ e
        rw [H0.out.fresh (Nat.le_refl _)] at this
        cases this
      · have := hVr _ e
        rw [H0.out.fresh (by show w.heap.size ≤ w.heap.size + 1; omega)] at this
        cases this
      · have := hVr _ e
        rw [hr.rd] at this
        cases this
    have HS3 := Lib.hid (show _ ∧ _ ∧ _ ∧ _ ∧ _ from ⟨hS3.1, hS3.2.1, hS3.2.2, c5, hlook3⟩)
    clear hS3 hlook3
    have HR2 := Lib.hid hr
    have HX := Lib.hid hf'
    have HG := Lib.hid hgb
    have HV := Lib.hid hV
    have HS2 := Lib.hid hS2
    have HC := Lib.hid (And.intro c0 c4)
    have HL := Lib.hid hlook
    have H3 := Lib.hid (And.intro hown3 (And.intro hgr3 hat3))
    have HB3 := Lib.hid (And.intro hblk hblk3)
    have HN := Lib.hid hvne
    clear hr hl h0 hf hf' hx hgb hV hS2 c0 c4 hrow hblk hrole hbytes hown3 hgr3 hat3 hvne hblk3 hlook
    go_wp2_with fail
    refine Late.start (fun w' => w'.cell? ⟨w.heap.size, 0, none⟩ = some (.pointer (some ⟨bd, 0, none⟩)) ∧ w'.cell? ⟨w.heap.size + 1, 0, none⟩ = some (.slice p m c) ∧ w'.cell? ⟨bd, 0, none⟩ = some (.map (some bm)) ∧ w'.cell? ⟨g, 0, none⟩ = some V ∧ (Instr.lookup 56 (.map (some bm)) (.string n) false).run Tryz.prog w' = .ok (.pointer (some ⟨g, 0, none⟩)) w') 19 (by kernel_rfl) ?_ (fun hHeld => ?_)
    · exact ⟨HS2.out.1, HS2.out.2, HC.out.1, HC.out.2, HL.out _ (Below.refl _ _).drew⟩
    refine Late.take (i := 0) (oi := _) (v := (.pointer (some ⟨bd, 0, none⟩))) rfl (by kernel_rfl) (by kernel_rfl) (by kernel_rfl) (fun _ _ _ h => h) (by kernel_rfl) (Or.inl ⟨by rfl, ?_⟩) (by assumption) ?_
    · intro w' hSw
      (try dsimp only at hSw)
      go_simp
    (try simp only [Act.put, List.setIfInBounds_toArray, List.set_cons_zero, List.set_cons_succ])
    refine Late.take (i := 1) (oi := _) (v := (.pointer (some ⟨bd, 0, none⟩))) rfl (by kernel_rfl) (by kernel_rfl) (by kernel_rfl) (fun _ _ _ h => h) (by kernel_rfl) (Or.inl ⟨by rfl, ?_⟩) (by assumption) ?_
    · intro w' hSw
      (try dsimp only at hSw)
      go_simp
    (try simp only [Act.put, List.setIfInBounds_toArray, List.set_cons_zero, List.set_cons_succ])
    refine Late.take (i := 2) (oi := _) (v := (.pointer (some ⟨bd, 0, none⟩))) rfl (by kernel_rfl) (by kernel_rfl) (by kernel_rfl) (fun _ _ _ h => h) (by kernel_rfl) (Or.inl ⟨by rfl, ?_⟩) (by assumption) ?_
    · intro w' hSw
      (try dsimp only at hSw)
      go_simp
    (try simp only [Act.put, List.setIfInBounds_toArray, List.set_cons_zero, List.set_cons_succ])
    refine Late.take (i := 3) (oi := _) (v := (.map (some bm))) rfl (by kernel_rfl) (by kernel_rfl) (by kernel_rfl) (fun _ _ _ h => h) (by kernel_rfl) (Or.inl ⟨by rfl, ?_⟩) (by assumption) ?_
    · intro w' hSw
      (try dsimp only at hSw)
      go_simp
    (try simp only [Act.put, List.setIfInBounds_toArray, List.set_cons_zero, List.set_cons_succ])
    refine Late.take (i := 4) (oi := _) (v := (.string n)) rfl (by kernel_rfl) (by kernel_rfl) (by kernel_rfl) (fun _ _ _ h => h) (by kernel_rfl) (Or.inl ⟨by rfl, ?_⟩) (by assumption) ?_
    · intro w' hSw
      (try dsimp only at hSw)
      go_simp
    (try simp only [Act.put, List.setIfInBounds_toArray, List.set_cons_zero, List.set_cons_succ])
    refine Late.take (i := 5) (oi := _) (v := (.pointer (some ⟨g, 0, none⟩))) rfl (by kernel_rfl) (by kernel_rfl) (by kernel_rfl) (fun _ _ _ h => h) (by kernel_rfl) (Or.inl ⟨by rfl, ?_⟩) (by assumption) ?_
    · intro w' hSw
      (try dsimp only at hSw)
      go_simp
    (try simp only [Act.put, List.setIfInBounds_toArray, List.set_cons_zero, List.set_cons_succ])
    refine Late.take (i := 6) (oi := _) (v := (.pointer (some ⟨bd, 0, none⟩))) rfl (by kernel_rfl) (by kernel_rfl) (by kernel_rfl) (fun _ _ _ h => h) (by kernel_rfl) (Or.inl ⟨by rfl, ?_⟩) (by assumption) ?_
    · intro w' hSw
      (try dsimp only at hSw)
      go_simp
    (try simp only [Act.put, List.setIfInBounds_toArray, List.set_cons_zero, List.set_cons_succ])
    refine Late.take (i := 7) (oi := _) (v := (.pointer (some ⟨bd, 0, none⟩))) rfl (by kernel_rfl) (by kernel_rfl) (by kernel_rfl) (fun _ _ _ h => h) (by kernel_rfl) (Or.inl ⟨by rfl, ?_⟩) (by assumption) ?_
    · intro w' hSw
      (try dsimp only at hSw)
      go_simp
    (try simp only [Act.put, List.setIfInBounds_toArray, List.set_cons_zero, List.set_cons_succ])
    refine Late.take (i := 8) (oi := _) (v := (.pointer (some ⟨bd, 0, none⟩))) rfl (by kernel_rfl) (by kernel_rfl) (by kernel_rfl) (fun _ _ _ h => h) (by kernel_rfl) (Or.inl ⟨by rfl, ?_⟩) (by assumption) ?_
    · intro w' hSw
      (try dsimp only at hSw)
      go_simp
    (try simp only [Act.put, List.setIfInBounds_toArray, List.set_cons_zero, List.set_cons_succ])
    refine Late.take (i := 9) (oi := _) (v := (.map (some bm))) rfl (by kernel_rfl) (by kernel_rfl) (by kernel_rfl) (fun _ _ _ h => h) (by kernel_rfl) (Or.inl ⟨by rfl, ?_⟩) (by assumption) ?_
    · intro w' hSw
      (try dsimp only at hSw)
      go_simp
    (try simp only [Act.put, List.setIfInBounds_toArray, List.set_cons_zero, List.set_cons_succ])
    refine Late.take (i := 10) (oi := _) (v := (.string n)) rfl (by kernel_rfl) (by kernel_rfl) (by kernel_rfl) (fun _ _ _ h => h) (by kernel_rfl) (Or.inl ⟨by rfl, ?_⟩) (by assumption) ?_
    · intro w' hSw
      (try dsimp only at hSw)
      go_simp
    (try simp only [Act.put, List.setIfInBounds_toArray, List.set_cons_zero, List.set_cons_succ])
    refine Late.take (i := 11) (oi := _) (v := (.pointer (some ⟨g, 0, none⟩))) rfl (by kernel_rfl) (by kernel_rfl) (by kernel_rfl) (fun _ _ _ h => h) (by kernel_rfl) (Or.inl ⟨by rfl, ?_⟩) (by assumption) ?_
    · intro w' hSw
      (try dsimp only at hSw)
      go_simp
    (try simp only [Act.put, List.setIfInBounds_toArray, List.set_cons_zero, List.set_cons_succ])
    refine Late.take (i := 12) (oi := _) (v := (.pointer (some ⟨g, 0, none⟩))) rfl (by kernel_rfl) (by kernel_rfl) (by kernel_rfl) (fun _ _ _ h => h) (by kernel_rfl) (Or.inl ⟨by rfl, ?_⟩) (by assumption) ?_
    · intro w' hSw
      (try dsimp only at hSw)
      go_simp
    (try simp only [Act.put, List.setIfInBounds_toArray, List.set_cons_zero, List.set_cons_succ])
    refine Late.take (i := 13) (oi := _) (v := (.pointer (some ⟨g, 0, none⟩))) rfl (by kernel_rfl) (by kernel_rfl) (by kernel_rfl) (fun _ _ _ h => h) (by kernel_rfl) (Or.inl ⟨by rfl, ?_⟩) (by assumption) ?_
    · intro w' hSw
      (try dsimp only at hSw)
      go_simp
    (try simp only [Act.put, List.setIfInBounds_toArray, List.set_cons_zero, List.set_cons_succ])
    refine Late.take (i := 14) (oi := _) (v := V) rfl (by kernel_rfl) (by kernel_rfl) (by kernel_rfl) (fun _ _ _ h => h) (by kernel_rfl) (Or.inl ⟨by rfl, ?_⟩) (by assumption) ?_
    · intro w' hSw
      (try dsimp only at hSw)
      go_simp
    (try simp only [Act.put, List.setIfInBounds_toArray, List.set_cons_zero, List.set_cons_succ])
    refine Late.take (i := 15) (oi := _) (v := (.slice p m c)) rfl (by kernel_rfl) (by kernel_rfl) (by kernel_rfl) (fun _ _ _ h => h) (by kernel_rfl) (Or.inl ⟨by rfl, ?_⟩) (by assumption) ?_
    · intro w' hSw
      (try dsimp only at hSw)
      go_simp
    (try simp only [Act.put, List.setIfInBounds_toArray, List.set_cons_zero, List.set_cons_succ])
    refine Late.step (i := 16) (o := _) (by kernel_rfl) rfl (fun K hK => ?_)
    refine step_append_run rfl (.tmp 34) (.tmp 35) 31 rfl V (.slice p m c) (.slice p' (f.b ++ ns).length c') (by simp [Act.eval]) (by simp [Act.eval]) hrun ?_
    refine hK.out _ _ ?_ (fun hHeld => ?_)
    · exact HS3.out
    clear hK K
    (try simp only [Act.put, List.setIfInBounds_toArray, List.set_cons_zero, List.set_cons_succ])
    refine Late.step (i := 17) (o := _) (by kernel_rfl) rfl (fun K hK => ?_)
    go_simp
    refine hK.out _ _ ?_ (fun hHeld => ?_)
    · exact HS3.out
    clear hK K
    (try simp only [Act.put, List.setIfInBounds_toArray, List.set_cons_zero, List.set_cons_succ])
    refine Late.step (i := 18) (o := _) (by kernel_rfl) rfl (fun K hK => ?_)
    go_simp
    refine hK.out _ _ ?_ (fun hHeld => ?_)
    · exact HS3.out
    clear hK K
    (try simp only [Act.put, List.setIfInBounds_toArray, List.set_cons_zero, List.set_cons_succ])
    refine Late.last (L := 19) (o := _) (by kernel_rfl) rfl (by kernel_rfl) (fun K hK => ?_)
    go_simp
    refine hK.out _ _ ?_
    clear hK K
    (try simp only [Act.put, List.setIfInBounds_toArray, List.set_cons_zero, List.set_cons_succ])
    refine Late.done (by kernel_rfl) ?_ _
    go_wp2_with fail
    go_ret
    show MethPost ρ w bd (append n.data.toList ns s) _ _
    unfold append
    rw [HP.out, HX.out]
    have hr := HR2.out
    have hx := get_mem HX.out
    obtain rfl := HG.out
    obtain rfl := HV.out
    obtain ⟨hown3, hgr3, hat3⟩ := H3.out
    obtain ⟨hblk, hblk3⟩ := HB3.out
    have hb3 := hblk3.trans hblk
    have hg3 := (Array.getElem?_eq_some_iff.1 hb3).1
    obtain ⟨ρ', hr', hf'⟩ := hr.setFile (w' := w3.setCell ⟨blk n.data.toList, 0, none⟩ (.slice p' (f.b ++ ns).length c')) HX.out (.slice p' (f.b ++ ns).length c') ⟨f.b ++ ns, f.fast⟩
      (by
        rw [setCell_eq w3 _ 0 _ _ _ _ hb3, heap_setBlock hg3]
        rfl)
      (by
        refine ownsRow_block hown3 fun k hk => ?_
        rw [setCell_eq w3 _ 0 _ _ _ _ hb3, Dk.setBlock_other]
        rintro rfl
        rcases hat3 with h1 | h1
        · rw [hk] at h1
          exact HN.out h1.symm
        · rw [hk] at h1
          have h2 := Option.some.inj h1
          have h3 := (Array.getElem?_eq_some_iff.1 hblk).1
          rw [show w2.drew.heap.size = w2.heap.size from rfl] at h2
          omega)
      (fun k hk => by
        rcases hat3 with h1 | h1
        · exact .inl (by rw [← h1]; exact hk)
        · rw [hk] at h1
          have h2 := Option.some.inj h1
          exact .inr (by rw [h2]; exact Nat.le_refl _))
      ⟨hgr3.os, hgr3.tape, hgr3.output, by
        rw [setCell_eq w3 _ 0 _ _ _ _ hb3, Dk.setBlock_size]
        exact hgr3.size, fun b hb hne => by
        rw [setCell_eq w3 _ 0 _ _ _ _ hb3, Dk.setBlock_other _ _ _ (fun e => hne (.inl e))]
        exact hgr3.block b hb (fun e => hne (.inr e.symm))⟩
    rw [List.length_append] at hr' hf'
    exact ⟨rfl, ρ', hr'.rep, HF.out.trans hf'⟩
end Go.Proofs.YtjlchphbkmaacaaGreatDoor
