/- Calls of no disk. -/
import Derived.Test.YtjlchphbkmaacaaDoorFb
set_option linter.unusedVariables false
set_option linter.unusedSimpArgs false
namespace Go.Proofs.YtjlchphbkmaacaaDoor
open Go.RowKit Go.MapKept Go.ChangeMaps Go.Maps
attribute [local go_sem ↓] Go.wp_at_zero Go.wp_at_succ
open Dk

def NilPost (V : World) (e : Ending) (w' : World) : Prop := e = .returned (.int .i64 2) ∧ Below V.heap.size V w'
theorem NilPost.back {V W : World} {e : Ending} {w' : World} (h : NilPost W e w') (hb : Below V.heap.size V W) : NilPost V e w' := ⟨h.1, hb.trans (h.2.mono hb.size)⟩

theorem first_nil (V : World) (cs : Array Value) (n : Nat) (bs : Nat) (hbv : bs = V.heap.size) (hc : cs.toList.head? = some (.func (.func 30) #[.pointer none] #[])) (hn : cs.size = n) (hl : n ≤ 1000) :
    Calls Tryd.prog 33 #[.slice (some ⟨bs, 0, none⟩) n n] (V.alloc (.cells cs 61 (0, 0))) (NilPost V) := by
  subst hn hbv
  obtain ⟨rest, hc⟩ : ∃ rest, cs.toList = (.func (.func 30) #[.pointer none] #[]) :: rest := List.head?_eq_some_iff.1 hc
  have hb := bel_alloc (Below.refl V.heap.size V) (.cells cs 61 (0, 0))
  have hbk : (V.alloc (.cells cs 61 (0, 0))).heap[V.heap.size]? = some (.cells cs 61 (0, 0)) := allocs_at [.cells cs 61 (0, 0)] V 0 _ rfl
  have hbs := (Array.getElem?_eq_some_iff.1 hbk).1
  have hcl : cs = ((.func (.func 30) #[.pointer none] #[]) :: rest).toArray := by rw [← hc]
  have hsz : cs.size = ((.func (.func 30) #[.pointer none] #[]) :: rest).length := by rw [hcl]; simp
  rw [hsz] at hl ⊢
  generalize V.alloc (.cells cs 61 (0, 0)) = W at *
  refine (first_calls V.heap.size ((.func (.func 30) #[.pointer none] #[]) :: rest) (fun m W' => m = 2 ∧ Below W.heap.size W W') W (by rw [hbk, hcl]) hl
    (asks_cons (n := 2) ⟨_, _, _, rfl, (enters_of Tryd.func30 (by kernel_rfl) rfl) _, fun V' hV' => ?_⟩ (Below.refl _ _) hbs (fun h => by cases h) (fun _ W' hb => ⟨rfl, hb⟩))).mono ?_
  · refine (answers_nil V').mono ?_
    rintro e w' ⟨rfl, rfl⟩
    exact ⟨rfl, Below.refl _ _⟩
  · rintro e w' ⟨m, rfl, rfl, hb2⟩
    exact ⟨rfl, hb.trans (hb2.mono hb.size)⟩
theorem first_nil_drew (V : World) (cs : Array Value) (n : Nat) (bs : Nat) (hbv : bs = V.heap.size) (hc : cs.toList.head? = some (.func (.func 30) #[.pointer none] #[])) (hn : cs.size = n) (hl : n ≤ 1000) :
    Calls Tryd.prog 33 #[.slice (some ⟨bs, 0, none⟩) n n] (V.alloc (.cells cs 61 (0, 0))).drew (NilPost V) :=
  (first_nil V.drew cs n bs hbv hc hn hl).mono fun _ _ h => h.back (Below.refl V.heap.size V).drew

set_option maxRecDepth 100000 in
set_option maxHeartbeats 1000000 in
theorem sync_nil (w : World) (n : ByteArray) : Calls Tryd.prog 25 #[.pointer none, .string n] w (NilPost w) := by
  have hmf : ∀ (fn : Fn) (first cap : Array Value) (w : World), (Instr.makeFunc fn first cap).run Tryd.prog w = .ok (.func fn first cap) w := fun _ _ _ _ => rfl
  have hnot : ∀ (x : Bool) (w : World), (Op.unary .not (.bool x)).run Tryd.prog w = .ok (.bool (!x)) w := fun _ _ => rfl
  go_enter Tryd.func25, Tryd.ntmps25
  go_wp2_with fail
  refine (there_any _ n _ ⟨_, rfl⟩).mono ?_
  rintro e w1 ⟨rfl, rfl⟩
  go_wp2_with fail
  refine (first_nil _ _ _ _ ?b0 ?b1 ?b2 ?b3).mono ?_
  case b0 => simp only [World.size_alloc]
  case b1 => rfl
  case b2 => rfl
  case b3 => decide
  rintro e w2 ⟨rfl, hb⟩
  have HB := Lib.hid hb
  clear hb
  go_wp2_with fail
  go_ret
  exact ⟨rfl, (NilPost.back ⟨rfl, HB.out⟩ (by repeat (first | assumption | exact Below.refl _ _ | apply Below.drew | refine bel_alloc ?_ _))).2⟩

set_option maxRecDepth 100000 in
set_option maxHeartbeats 1000000 in
theorem remove_nil (w : World) (n : ByteArray) : Calls Tryd.prog 22 #[.pointer none, .string n] w (NilPost w) := by
  have hmf : ∀ (fn : Fn) (first cap : Array Value) (w : World), (Instr.makeFunc fn first cap).run Tryd.prog w = .ok (.func fn first cap) w := fun _ _ _ _ => rfl
  have hnot : ∀ (x : Bool) (w : World), (Op.unary .not (.bool x)).run Tryd.prog w = .ok (.bool (!x)) w := fun _ _ => rfl
  go_enter Tryd.func22, Tryd.ntmps22
  go_wp2_with fail
  refine (there_any _ n _ ⟨_, rfl⟩).mono ?_
  rintro e w1 ⟨rfl, rfl⟩
  go_wp2_with fail
  refine (first_nil _ _ _ _ ?b0 ?b1 ?b2 ?b3).mono ?_
  case b0 => simp only [World.size_alloc]
  case b1 => rfl
  case b2 => rfl
  case b3 => decide
  rintro e w2 ⟨rfl, hb⟩
  have HB := Lib.hid hb
  clear hb
  go_wp2_with fail
  go_ret
  exact ⟨rfl, (NilPost.back ⟨rfl, HB.out⟩ (by repeat (first | assumption | exact Below.refl _ _ | apply Below.drew | refine bel_alloc ?_ _))).2⟩

set_option maxRecDepth 100000 in
set_option maxHeartbeats 1000000 in
theorem rename_nil (w : World) (o n : ByteArray) (hn : n.size ≤ maxLen) : Calls Tryd.prog 20 #[.pointer none, .string o, .string n] w (NilPost w) := by
  have hmf : ∀ (fn : Fn) (first cap : Array Value) (w : World), (Instr.makeFunc fn first cap).run Tryd.prog w = .ok (.func fn first cap) w := fun _ _ _ _ => rfl
  have hnot : ∀ (x : Bool) (w : World), (Op.unary .not (.bool x)).run Tryd.prog w = .ok (.bool (!x)) w := fun _ _ => rfl
  go_enter Tryd.func20, Tryd.ntmps20
  go_wp2_with fail
  refine (may_any n w hn).mono ?_
  rintro e w0 ⟨rfl, hb0⟩
  generalize hM : Dk.may n.data.toList = M at *
  have HM := Lib.hid hM
  clear hM
  have HB0 := Lib.hid hb0
  clear hb0
  go_wp2_with fail
  refine (wrong_any (!M) 1 w0).mono ?_
  rintro e w1 ⟨rfl, rfl⟩
  go_wp2_with fail
  refine (there_any _ o _ ⟨_, rfl⟩).mono ?_
  rintro e w1 ⟨rfl, rfl⟩
  go_wp2_with fail
  refine (first_nil _ _ _ _ ?b0 ?b1 ?b2 ?b3).mono ?_
  case b0 => simp only [World.size_alloc]
  case b1 => rfl
  case b2 => rfl
  case b3 => decide
  rintro e w2 ⟨rfl, hb⟩
  have HB := Lib.hid hb
  clear hb
  go_wp2_with fail
  go_ret
  have hb0 := HB0.out
  exact ⟨rfl, (NilPost.back ⟨rfl, HB.out⟩ (by repeat (first | assumption | exact Below.refl _ _ | apply Below.drew | refine bel_alloc ?_ _))).2⟩

set_option maxRecDepth 100000 in
set_option maxHeartbeats 1000000 in
theorem fuse_nil (w : World) (k : Int) : Calls Tryd.prog 16 #[.pointer none, .int .i64 k] w (NilPost w) := by
  have hmf : ∀ (fn : Fn) (first cap : Array Value) (w : World), (Instr.makeFunc fn first cap).run Tryd.prog w = .ok (.func fn first cap) w := fun _ _ _ _ => rfl
  have hnot : ∀ (x : Bool) (w : World), (Op.unary .not (.bool x)).run Tryd.prog w = .ok (.bool (!x)) w := fun _ _ => rfl
  go_enter Tryd.func16, Tryd.ntmps16
  go_wp2_with fail
  refine (wrong_any (decide (k < -1)) 1 w).mono ?_
  rintro e w1 ⟨rfl, rfl⟩
  go_wp2_with fail
  refine (first_nil _ _ _ _ ?b0 ?b1 ?b2 ?b3).mono ?_
  case b0 => simp only [World.size_alloc]
  case b1 => rfl
  case b2 => rfl
  case b3 => decide
  rintro e w2 ⟨rfl, hb⟩
  have HB := Lib.hid hb
  clear hb
  go_wp2_with fail
  go_ret
  exact ⟨rfl, (NilPost.back ⟨rfl, HB.out⟩ (by repeat (first | assumption | exact Below.refl _ _ | apply Below.drew | refine bel_alloc ?_ _))).2⟩

def NilRead (V : World) (e : Ending) (w' : World) : Prop := e = .returned (.tuple #[.slice none 0 0, .int .i64 2]) ∧ Below V.heap.size V w'
def NilLoose (V : World) (e : Ending) (w' : World) : Prop := e = .returned (.int .i64 0) ∧ Below V.heap.size V w'

set_option maxRecDepth 100000 in
set_option maxHeartbeats 1000000 in
theorem read_nil (w : World) (n : ByteArray) : Calls Tryd.prog 10 #[.pointer none, .string n] w (NilRead w) := by
  have hmf : ∀ (fn : Fn) (first cap : Array Value) (w : World), (Instr.makeFunc fn first cap).run Tryd.prog w = .ok (.func fn first cap) w := fun _ _ _ _ => rfl
  have hnot : ∀ (x : Bool) (w : World), (Op.unary .not (.bool x)).run Tryd.prog w = .ok (.bool (!x)) w := fun _ _ => rfl
  go_enter Tryd.func10, Tryd.ntmps10
  go_wp2_with fail
  refine (there_any _ n _ ⟨_, rfl⟩).mono ?_
  rintro e w1 ⟨rfl, rfl⟩
  go_wp2_with fail
  refine (first_nil _ _ _ _ ?b0 ?b1 ?b2 ?b3).mono ?_
  case b0 => simp only [World.size_alloc]
  case b1 => rfl
  case b2 => rfl
  case b3 => decide
  rintro e w2 ⟨rfl, hb⟩
  have HB := Lib.hid hb
  clear hb
  go_wp2_with fail
  go_ret2
  exact ⟨rfl, (NilPost.back ⟨rfl, HB.out⟩ (by repeat (first | assumption | exact Below.refl _ _ | apply Below.drew | refine bel_alloc ?_ _))).2⟩

set_option maxRecDepth 100000 in
set_option maxHeartbeats 1000000 in
theorem loose_nil (w : World) (n : ByteArray) : Calls Tryd.prog 11 #[.pointer none, .string n] w (NilLoose w) := by
  have hmf : ∀ (fn : Fn) (first cap : Array Value) (w : World), (Instr.makeFunc fn first cap).run Tryd.prog w = .ok (.func fn first cap) w := fun _ _ _ _ => rfl
  have hnot : ∀ (x : Bool) (w : World), (Op.unary .not (.bool x)).run Tryd.prog w = .ok (.bool (!x)) w := fun _ _ => rfl
  go_enter Tryd.func11, Tryd.ntmps11
  go_wp2_with fail
  refine (there_any _ n _ ⟨_, rfl⟩).mono ?_
  rintro e w1 ⟨rfl, rfl⟩
  go_wp2_with fail
  refine (first_nil _ _ _ _ ?b0 ?b1 ?b2 ?b3).mono ?_
  case b0 => simp only [World.size_alloc]
  case b1 => rfl
  case b2 => rfl
  case b3 => decide
  rintro e w2 ⟨rfl, hb⟩
  have HB := Lib.hid hb
  clear hb
  go_wp2_with fail
  go_ret
  exact ⟨rfl, (NilPost.back ⟨rfl, HB.out⟩ (by repeat (first | assumption | exact Below.refl _ _ | apply Below.drew | refine bel_alloc ?_ _))).2⟩

set_option maxRecDepth 100000 in
set_option maxHeartbeats 1000000 in
theorem quota_nil (w : World) (k : Int) : Calls Tryd.prog 23 #[.pointer none, .int .i64 k] w (NilPost w) := by
  have hmf : ∀ (fn : Fn) (first cap : Array Value) (w : World), (Instr.makeFunc fn first cap).run Tryd.prog w = .ok (.func fn first cap) w := fun _ _ _ _ => rfl
  have hnot : ∀ (x : Bool) (w : World), (Op.unary .not (.bool x)).run Tryd.prog w = .ok (.bool (!x)) w := fun _ _ => rfl
  go_enter Tryd.func23, Tryd.ntmps23
  go_wp2_with fail
  refine (answers_nil _).mono ?_
  rintro e w1 ⟨rfl, rfl⟩
  go_wp2_with fail
  go_ret
  exact ⟨rfl, Below.refl _ _⟩

set_option maxRecDepth 100000 in
set_option maxHeartbeats 1000000 in
theorem off_nil (w : World) : Calls Tryd.prog 18 #[.pointer none] w (fun e w' => e = .returned (.bool false) ∧ Below w.heap.size w w') := by
  have hmf : ∀ (fn : Fn) (first cap : Array Value) (w : World), (Instr.makeFunc fn first cap).run Tryd.prog w = .ok (.func fn first cap) w := fun _ _ _ _ => rfl
  have hnot : ∀ (x : Bool) (w : World), (Op.unary .not (.bool x)).run Tryd.prog w = .ok (.bool (!x)) w := fun _ _ => rfl
  go_enter Tryd.func18, Tryd.ntmps18
  go_wp2_with fail
  refine (answers_nil _).mono ?_
  rintro e w1 ⟨rfl, rfl⟩
  go_wp2_with fail
  go_ret
  exact ⟨rfl, Below.refl _ _⟩

set_option maxRecDepth 100000 in
set_option maxHeartbeats 1000000 in
theorem crash_nil (w : World) (p q : Value) : Calls Tryd.prog 12 #[.pointer none, p, q] w (NilPost w) := by
  have hmf : ∀ (fn : Fn) (first cap : Array Value) (w : World), (Instr.makeFunc fn first cap).run Tryd.prog w = .ok (.func fn first cap) w := fun _ _ _ _ => rfl
  have hnot : ∀ (x : Bool) (w : World), (Op.unary .not (.bool x)).run Tryd.prog w = .ok (.bool (!x)) w := fun _ _ => rfl
  go_enter Tryd.func12, Tryd.ntmps12
  go_wp2_with fail
  refine (answers_nil _).mono ?_
  rintro e w1 ⟨rfl, rfl⟩
  go_wp2_with fail
  go_ret
  exact ⟨rfl, Below.refl _ _⟩

set_option maxRecDepth 100000 in
set_option maxHeartbeats 1000000 in
theorem used_nil (w : World) : Calls Tryd.prog 27 #[.pointer none] w (NilLoose w) := by
  have hmf : ∀ (fn : Fn) (first cap : Array Value) (w : World), (Instr.makeFunc fn first cap).run Tryd.prog w = .ok (.func fn first cap) w := fun _ _ _ _ => rfl
  have hnot : ∀ (x : Bool) (w : World), (Op.unary .not (.bool x)).run Tryd.prog w = .ok (.bool (!x)) w := fun _ _ => rfl
  go_enter Tryd.func27, Tryd.ntmps27
  go_wp2_with fail
  refine (names_nil _).mono ?_
  rintro e w1 ⟨rfl, rfl⟩
  go_wp2_with fail
  go_loop [3, 9] (fun n i => n = .int .i64 0 ∧ i = .int .i64 0) (fun _ _ => 0)
  case atStart => exact ⟨rfl, rfl⟩
  case round =>
    obtain ⟨rfl, rfl⟩ := hrel
    go_wp2_with fail
    go_ret
    exact ⟨rfl, Below.refl _ _⟩

set_option maxRecDepth 100000 in
set_option maxHeartbeats 1000000 in
theorem create_nil (w : World) (n : ByteArray) (hn : n.size ≤ maxLen) : Calls Tryd.prog 19 #[.pointer none, .string n] w (NilPost w) := by
  have hmf : ∀ (fn : Fn) (first cap : Array Value) (w : World), (Instr.makeFunc fn first cap).run Tryd.prog w = .ok (.func fn first cap) w := fun _ _ _ _ => rfl
  have hnot : ∀ (x : Bool) (w : World), (Op.unary .not (.bool x)).run Tryd.prog w = .ok (.bool (!x)) w := fun _ _ => rfl
  have hb : Below w.heap.size w ((w.alloc (.cells #[.pointer none] 25)).alloc (.cells #[.string n] 9)) := allocs_below [.cells #[.pointer none] 25, .cells #[.string n] 9] w
  have hat := allocs_at [.cells #[.pointer none] 25, .cells #[.string n] 9] w
  have p1 : ((w.alloc (.cells #[.pointer none] 25)).alloc (.cells #[.string n] 9)).cell? ⟨w.heap.size, 0, none⟩ = some (.pointer none) := cell_of_block (i := 0) (hat 0 _ rfl)
  have p2 : ((w.alloc (.cells #[.pointer none] 25)).alloc (.cells #[.string n] 9)).cell? ⟨w.heap.size + 1, 0, none⟩ = some (.string n) := cell_of_block (i := 0) (hat 1 _ rfl)
  clear hat
  go_enter Tryd.func19, Tryd.ntmps19
  go_wp2_with fail
  generalize ((w.alloc (.cells #[.pointer none] 25)).alloc (.cells #[.string n] 9)) = W at *
  have HS := Lib.hid (show ∀ V, Below W.heap.size W V → (V.cell? ⟨w.heap.size, 0, none⟩ = some (.pointer none) ∧ V.cell? ⟨w.heap.size + 1, 0, none⟩ = some (.string n)) from fun V hV => ⟨(hV.cell (cell_lt p1)).trans p1, (hV.cell (cell_lt p2)).trans p2⟩)
  have HB := Lib.hid hb
  clear hb p1 p2
  refine wp_region_held_drew (S := fun w' => w'.cell? ⟨w.heap.size, 0, none⟩ = some (.pointer none) ∧ w'.cell? ⟨w.heap.size + 1, 0, none⟩ = some (.string n)) (by kernel_rfl) ?_ (fun hHeld => ?_)
  · exact HS.out _ (Below.refl _ _).drew
  refine wpAnyH_take (i := 0) (oi := _) (v := (.pointer none)) rfl (by kernel_rfl) (by kernel_rfl) (by kernel_rfl) (fun _ _ _ h => h) (Or.inl ⟨by rfl, ?_⟩) (by assumption) ?_
  · intro w' hSw
    (try dsimp only at hSw)
    go_simp
  (try simp only [Act.put, List.setIfInBounds_toArray, List.set_cons_zero, List.set_cons_succ])
  refine wpAnyH_take (i := 1) (oi := _) (v := (.func (.func 30) #[.pointer none] #[])) rfl (by kernel_rfl) (by kernel_rfl) (by kernel_rfl) (fun _ _ _ h => h) (Or.inl ⟨by rfl, ?_⟩) (by assumption) ?_
  · intro w' hSw
    (try dsimp only at hSw)
    go_simp
  (try simp only [Act.put, List.setIfInBounds_toArray, List.set_cons_zero, List.set_cons_succ])
  refine wpAnyH_take (i := 2) (oi := _) (v := (.string n)) rfl (by kernel_rfl) (by kernel_rfl) (by kernel_rfl) (fun _ _ _ h => h) (Or.inl ⟨by rfl, ?_⟩) (by assumption) ?_
  · intro w' hSw
    (try dsimp only at hSw)
    go_simp
  (try simp only [Act.put, List.setIfInBounds_toArray, List.set_cons_zero, List.set_cons_succ])
  refine wpAnyH_take (i := 6) (oi := _) (v := (.func (.func 37) #[] #[.pointer (some ⟨w.heap.size, 0, none⟩), .pointer (some ⟨w.heap.size + 1, 0, none⟩)])) rfl (by kernel_rfl) (by kernel_rfl) (by kernel_rfl) (fun _ _ _ h => h) (Or.inl ⟨by rfl, ?_⟩) (by assumption) ?_
  · intro w' hSw
    (try dsimp only at hSw)
    go_simp
  (try simp only [Act.put, List.setIfInBounds_toArray, List.set_cons_zero, List.set_cons_succ])
  refine wpAnyH_take (i := 7) (oi := _) (v := (.func (.func 38) #[] #[.pointer (some ⟨w.heap.size, 0, none⟩)])) rfl (by kernel_rfl) (by kernel_rfl) (by kernel_rfl) (fun _ _ _ h => h) (Or.inl ⟨by rfl, ?_⟩) (by assumption) ?_
  · intro w' hSw
    (try dsimp only at hSw)
    go_simp
  (try simp only [Act.put, List.setIfInBounds_toArray, List.set_cons_zero, List.set_cons_succ])
  refine wpAnyH_take (i := 8) (oi := _) (v := (.pointer none)) rfl (by kernel_rfl) (by kernel_rfl) (by kernel_rfl) (fun _ _ _ h => h) (Or.inl ⟨by rfl, ?_⟩) (by assumption) ?_
  · intro w' hSw
    (try dsimp only at hSw)
    go_simp
  (try simp only [Act.put, List.setIfInBounds_toArray, List.set_cons_zero, List.set_cons_succ])
  refine wpAnyH_take (i := 9) (oi := _) (v := (.func (.func 39) #[.pointer none] #[])) rfl (by kernel_rfl) (by kernel_rfl) (by kernel_rfl) (fun _ _ _ h => h) (Or.inl ⟨by rfl, ?_⟩) (by assumption) ?_
  · intro w' hSw
    (try dsimp only at hSw)
    go_simp
  (try simp only [Act.put, List.setIfInBounds_toArray, List.set_cons_zero, List.set_cons_succ])
  refine wpAnyH_ready (rs := [3]) (by kernel_rfl) (by simp) ?_
  refine AllReadyH.cons (o := _) rfl (fun K hK => ?_) AllReadyH.nil
  go_simp
  refine (may_any n _ hn).mono ?_
  rintro e w1 ⟨rfl, hb⟩
  have hb' : Below W.heap.size W w1 := ((Below.refl W.heap.size W).drew).trans hb
  clear hb
  generalize hM : Dk.may n.data.toList = M at *
  have HM := Lib.hid hM
  clear hM
  refine hK.out _ _ ?_ (fun hHeld => ?_)
  · exact HS.out _ (by repeat (first | assumption | exact Below.refl _ _ | apply Below.drew | refine bel_alloc ?_ _))
  clear hK K
  (try simp only [Act.put, List.setIfInBounds_toArray, List.set_cons_zero, List.set_cons_succ])
  refine wpAnyH_take (i := 4) (oi := _) (v := (.bool (!M))) rfl (by kernel_rfl) (by kernel_rfl) (by kernel_rfl) (fun _ _ _ h => h) (Or.inl ⟨by rfl, ?_⟩) (by assumption) ?_
  · intro w' hSw
    (try dsimp only at hSw)
    go_simp
  (try simp only [Act.put, List.setIfInBounds_toArray, List.set_cons_zero, List.set_cons_succ])
  refine wpAnyH_ready (rs := [5]) (by kernel_rfl) (by simp) ?_
  refine AllReadyH.cons (o := _) rfl (fun K hK => ?_) AllReadyH.nil
  go_simp
  refine (wrong_any _ _ _).mono ?_
  rintro e w' ⟨rfl, rfl⟩
  refine hK.out _ _ ?_ (fun hHeld => ?_)
  · exact HS.out _ (by repeat (first | assumption | exact Below.refl _ _ | apply Below.drew | refine bel_alloc ?_ _))
  clear hK K
  (try simp only [Act.put, List.setIfInBounds_toArray, List.set_cons_zero, List.set_cons_succ])
  refine wpAnyH_ready (rs := [10]) (by kernel_rfl) (by simp) ?_
  refine AllReadyH.cons (o := _) rfl (fun K hK => ?_) AllReadyH.nil
  go_simp
  refine hK.out _ _ ?_ (fun hHeld => ?_)
  · exact HS.out _ (by repeat (first | assumption | exact Below.refl _ _ | apply Below.drew | refine bel_alloc ?_ _))
  clear hK K
  (try simp only [Act.put, List.setIfInBounds_toArray, List.set_cons_zero, List.set_cons_succ])
  refine wpAnyH_ready (rs := [11]) (by kernel_rfl) (by simp) ?_
  refine AllReadyH.cons (o := _) rfl (fun K hK => ?_) AllReadyH.nil
  go_simp
  refine (first_nil _ _ _ _ ?b0 ?b1 ?b2 ?b3).mono ?_
  case b0 => simp only [World.size_alloc]
  case b1 => rfl
  case b2 => rfl
  case b3 => decide
  rintro e w2 ⟨rfl, hb⟩
  have hq : Below W.heap.size W w2 := (NilPost.back ⟨rfl, hb⟩ (by repeat (first | assumption | exact Below.refl _ _ | apply Below.drew | refine bel_alloc ?_ _))).2
  clear hb
  refine hK.out _ _ ?_ (fun hHeld => ?_)
  · exact HS.out _ (by repeat (first | assumption | exact Below.refl _ _ | apply Below.drew | refine bel_alloc ?_ _))
  clear hK K
  (try simp only [Act.put, List.setIfInBounds_toArray, List.set_cons_zero, List.set_cons_succ])
  refine wpAnyH_ready (rs := [12]) (by kernel_rfl) (by simp) ?_
  refine AllReadyH.cons (o := _) rfl (fun K hK => ?_) AllReadyH.nil
  go_simp
  refine hK.out _ _ ?_ (fun hHeld => ?_)
  · exact HS.out _ (by repeat (first | assumption | exact Below.refl _ _ | apply Below.drew | refine bel_alloc ?_ _))
  clear hK K
  (try simp only [Act.put, List.setIfInBounds_toArray, List.set_cons_zero, List.set_cons_succ])
  refine wpAnyH_done (by kernel_rfl) ?_ _
  have HQ := Lib.hid hq
  clear hq
  go_wp2_with fail
  go_ret
  exact ⟨rfl, HB.out.trans (HQ.out.mono HB.out.size)⟩

set_option maxRecDepth 100000 in
set_option maxHeartbeats 1000000 in
theorem append_nil (w : World) (n : ByteArray) (p : Option Addr) (m c : Nat) : Calls Tryd.prog 24 #[.pointer none, .string n, .slice p m c] w (NilPost w) := by
  have hmf : ∀ (fn : Fn) (first cap : Array Value) (w : World), (Instr.makeFunc fn first cap).run Tryd.prog w = .ok (.func fn first cap) w := fun _ _ _ _ => rfl
  have hnot : ∀ (x : Bool) (w : World), (Op.unary .not (.bool x)).run Tryd.prog w = .ok (.bool (!x)) w := fun _ _ => rfl
  have hb : Below w.heap.size w ((w.alloc (.cells #[.pointer none] 25)).alloc (.cells #[.slice p m c] 24)) := allocs_below [.cells #[.pointer none] 25, .cells #[.slice p m c] 24] w
  have hat := allocs_at [.cells #[.pointer none] 25, .cells #[.slice p m c] 24] w
  have p1 : ((w.alloc (.cells #[.pointer none] 25)).alloc (.cells #[.slice p m c] 24)).cell? ⟨w.heap.size, 0, none⟩ = some (.pointer none) := cell_of_block (i := 0) (hat 0 _ rfl)
  have p2 : ((w.alloc (.cells #[.pointer none] 25)).alloc (.cells #[.slice p m c] 24)).cell? ⟨w.heap.size + 1, 0, none⟩ = some (.slice p m c) := cell_of_block (i := 0) (hat 1 _ rfl)
  clear hat
  go_enter Tryd.func24, Tryd.ntmps24
  go_wp2_with fail
  generalize ((w.alloc (.cells #[.pointer none] 25)).alloc (.cells #[.slice p m c] 24)) = W at *
  have HS := Lib.hid (show ∀ V, Below W.heap.size W V → (V.cell? ⟨w.heap.size, 0, none⟩ = some (.pointer none) ∧ V.cell? ⟨w.heap.size + 1, 0, none⟩ = some (.slice p m c)) from fun V hV => ⟨(hV.cell (cell_lt p1)).trans p1, (hV.cell (cell_lt p2)).trans p2⟩)
  have HB := Lib.hid hb
  clear hb p1 p2
  refine wp_region_held_drew (S := fun w' => w'.cell? ⟨w.heap.size, 0, none⟩ = some (.pointer none) ∧ w'.cell? ⟨w.heap.size + 1, 0, none⟩ = some (.slice p m c)) (by kernel_rfl) ?_ (fun hHeld => ?_)
  · exact HS.out _ (Below.refl _ _).drew
  refine wpAnyH_take (i := 0) (oi := _) (v := (.pointer none)) rfl (by kernel_rfl) (by kernel_rfl) (by kernel_rfl) (fun _ _ _ h => h) (Or.inl ⟨by rfl, ?_⟩) (by assumption) ?_
  · intro w' hSw
    (try dsimp only at hSw)
    go_simp
  (try simp only [Act.put, List.setIfInBounds_toArray, List.set_cons_zero, List.set_cons_succ])
  refine wpAnyH_take (i := 1) (oi := _) (v := (.func (.func 30) #[.pointer none] #[])) rfl (by kernel_rfl) (by kernel_rfl) (by kernel_rfl) (fun _ _ _ h => h) (Or.inl ⟨by rfl, ?_⟩) (by assumption) ?_
  · intro w' hSw
    (try dsimp only at hSw)
    go_simp
  (try simp only [Act.put, List.setIfInBounds_toArray, List.set_cons_zero, List.set_cons_succ])
  refine wpAnyH_take (i := 2) (oi := _) (v := (.pointer none)) rfl (by kernel_rfl) (by kernel_rfl) (by kernel_rfl) (fun _ _ _ h => h) (Or.inl ⟨by rfl, ?_⟩) (by assumption) ?_
  · intro w' hSw
    (try dsimp only at hSw)
    go_simp
  (try simp only [Act.put, List.setIfInBounds_toArray, List.set_cons_zero, List.set_cons_succ])
  refine wpAnyH_take (i := 3) (oi := _) (v := (.string n)) rfl (by kernel_rfl) (by kernel_rfl) (by kernel_rfl) (fun _ _ _ h => h) (Or.inl ⟨by rfl, ?_⟩) (by assumption) ?_
  · intro w' hSw
    (try dsimp only at hSw)
    go_simp
  (try simp only [Act.put, List.setIfInBounds_toArray, List.set_cons_zero, List.set_cons_succ])
  refine wpAnyH_take (i := 5) (oi := _) (v := (.func (.func 41) #[] #[.pointer (some ⟨w.heap.size + 1, 0, none⟩), .pointer (some ⟨w.heap.size, 0, none⟩)])) rfl (by kernel_rfl) (by kernel_rfl) (by kernel_rfl) (fun _ _ _ h => h) (Or.inl ⟨by rfl, ?_⟩) (by assumption) ?_
  · intro w' hSw
    (try dsimp only at hSw)
    go_simp
  (try simp only [Act.put, List.setIfInBounds_toArray, List.set_cons_zero, List.set_cons_succ])
  refine wpAnyH_take (i := 6) (oi := _) (v := (.pointer none)) rfl (by kernel_rfl) (by kernel_rfl) (by kernel_rfl) (fun _ _ _ h => h) (Or.inl ⟨by rfl, ?_⟩) (by assumption) ?_
  · intro w' hSw
    (try dsimp only at hSw)
    go_simp
  (try simp only [Act.put, List.setIfInBounds_toArray, List.set_cons_zero, List.set_cons_succ])
  refine wpAnyH_take (i := 7) (oi := _) (v := (.func (.func 39) #[.pointer none] #[])) rfl (by kernel_rfl) (by kernel_rfl) (by kernel_rfl) (fun _ _ _ h => h) (Or.inl ⟨by rfl, ?_⟩) (by assumption) ?_
  · intro w' hSw
    (try dsimp only at hSw)
    go_simp
  (try simp only [Act.put, List.setIfInBounds_toArray, List.set_cons_zero, List.set_cons_succ])
  refine wpAnyH_ready (rs := [4]) (by kernel_rfl) (by simp) ?_
  refine AllReadyH.cons (o := _) rfl (fun K hK => ?_) AllReadyH.nil
  go_simp
  refine (there_any _ n _ ⟨_, rfl⟩).mono ?_
  rintro e w1 ⟨rfl, rfl⟩
  (try simp only [World.setCell_drew])
  refine hK.out _ _ ?_ (fun hHeld => ?_)
  · exact HS.out _ (by repeat (first | assumption | exact Below.refl _ _ | apply Below.drew | refine bel_alloc ?_ _))
  clear hK K
  (try simp only [Act.put, List.setIfInBounds_toArray, List.set_cons_zero, List.set_cons_succ])
  refine wpAnyH_ready (rs := [8]) (by kernel_rfl) (by simp) ?_
  refine AllReadyH.cons (o := _) rfl (fun K hK => ?_) AllReadyH.nil
  go_simp
  refine hK.out _ _ ?_ (fun hHeld => ?_)
  · exact HS.out _ (by repeat (first | assumption | exact Below.refl _ _ | apply Below.drew | refine bel_alloc ?_ _))
  clear hK K
  (try simp only [Act.put, List.setIfInBounds_toArray, List.set_cons_zero, List.set_cons_succ])
  refine wpAnyH_ready (rs := [9]) (by kernel_rfl) (by simp) ?_
  refine AllReadyH.cons (o := _) rfl (fun K hK => ?_) AllReadyH.nil
  go_simp
  refine (first_nil_drew _ _ _ _ ?b0 ?b1 ?b2 ?b3).mono ?_
  case b0 => simp only [World.size_alloc]
  case b1 => rfl
  case b2 => rfl
  case b3 => decide
  rintro e w2 ⟨rfl, hb⟩
  have hq : Below W.heap.size W w2 := (NilPost.back ⟨rfl, hb⟩ (by repeat (first | assumption | exact Below.refl _ _ | apply Below.drew | refine bel_alloc ?_ _))).2
  clear hb
  refine hK.out _ _ ?_ (fun hHeld => ?_)
  · exact HS.out _ (by repeat (first | assumption | exact Below.refl _ _ | apply Below.drew | refine bel_alloc ?_ _))
  clear hK K
  (try simp only [Act.put, List.setIfInBounds_toArray, List.set_cons_zero, List.set_cons_succ])
  refine wpAnyH_ready (rs := [10]) (by kernel_rfl) (by simp) ?_
  refine AllReadyH.cons (o := _) rfl (fun K hK => ?_) AllReadyH.nil
  go_simp
  refine hK.out _ _ ?_ (fun hHeld => ?_)
  · exact HS.out _ (by repeat (first | assumption | exact Below.refl _ _ | apply Below.drew | refine bel_alloc ?_ _))
  clear hK K
  (try simp only [Act.put, List.setIfInBounds_toArray, List.set_cons_zero, List.set_cons_succ])
  refine wpAnyH_done (by kernel_rfl) ?_ _
  have HQ := Lib.hid hq
  clear hq
  go_wp2_with fail
  go_ret
  exact ⟨rfl, HB.out.trans (HQ.out.mono HB.out.size)⟩

set_option maxRecDepth 100000 in
set_option maxHeartbeats 1000000 in
theorem truncate_nil (w : World) (n : ByteArray) (k : Int) : Calls Tryd.prog 21 #[.pointer none, .string n, .int .i64 k] w (NilPost w) := by
  have hmf : ∀ (fn : Fn) (first cap : Array Value) (w : World), (Instr.makeFunc fn first cap).run Tryd.prog w = .ok (.func fn first cap) w := fun _ _ _ _ => rfl
  have hnot : ∀ (x : Bool) (w : World), (Op.unary .not (.bool x)).run Tryd.prog w = .ok (.bool (!x)) w := fun _ _ => rfl
  have hb : Below w.heap.size w (((w.alloc (.cells #[.pointer none] 25)).alloc (.cells #[.string n] 9)).alloc (.cells #[.int .i64 k] 3)) := allocs_below [.cells #[.pointer none] 25, .cells #[.string n] 9, .cells #[.int .i64 k] 3] w
  have hat := allocs_at [.cells #[.pointer none] 25, .cells #[.string n] 9, .cells #[.int .i64 k] 3] w
  have p1 : (((w.alloc (.cells #[.pointer none] 25)).alloc (.cells #[.string n] 9)).alloc (.cells #[.int .i64 k] 3)).cell? ⟨w.heap.size, 0, none⟩ = some (.pointer none) := cell_of_block (i := 0) (hat 0 _ rfl)
  have p2 : (((w.alloc (.cells #[.pointer none] 25)).alloc (.cells #[.string n] 9)).alloc (.cells #[.int .i64 k] 3)).cell? ⟨w.heap.size + 1, 0, none⟩ = some (.string n) := cell_of_block (i := 0) (hat 1 _ rfl)
  have p3 : (((w.alloc (.cells #[.pointer none] 25)).alloc (.cells #[.string n] 9)).alloc (.cells #[.int .i64 k] 3)).cell? ⟨w.heap.size + 1 + 1, 0, none⟩ = some (.int .i64 k) := cell_of_block (i := 0) (hat 2 _ rfl)
  clear hat
  go_enter Tryd.func21, Tryd.ntmps21
  go_wp2_with fail
  generalize (((w.alloc (.cells #[.pointer none] 25)).alloc (.cells #[.string n] 9)).alloc (.cells #[.int .i64 k] 3)) = W at *
  have HS := Lib.hid (show ∀ V, Below W.heap.size W V → (V.cell? ⟨w.heap.size, 0, none⟩ = some (.pointer none) ∧ V.cell? ⟨w.heap.size + 1, 0, none⟩ = some (.string n) ∧ V.cell? ⟨w.heap.size + 1 + 1, 0, none⟩ = some (.int .i64 k)) from fun V hV => ⟨(hV.cell (cell_lt p1)).trans p1, (hV.cell (cell_lt p2)).trans p2, (hV.cell (cell_lt p3)).trans p3⟩)
  have HB := Lib.hid hb
  clear hb p1 p2 p3
  refine wp_region_held_drew (S := fun w' => w'.cell? ⟨w.heap.size, 0, none⟩ = some (.pointer none) ∧ w'.cell? ⟨w.heap.size + 1, 0, none⟩ = some (.string n) ∧ w'.cell? ⟨w.heap.size + 1 + 1, 0, none⟩ = some (.int .i64 k)) (by kernel_rfl) ?_ (fun hHeld => ?_)
  · exact HS.out _ (Below.refl _ _).drew
  refine wpAnyH_take (i := 0) (oi := _) (v := (.pointer none)) rfl (by kernel_rfl) (by kernel_rfl) (by kernel_rfl) (fun _ _ _ h => h) (Or.inl ⟨by rfl, ?_⟩) (by assumption) ?_
  · intro w' hSw
    (try dsimp only at hSw)
    go_simp
  (try simp only [Act.put, List.setIfInBounds_toArray, List.set_cons_zero, List.set_cons_succ])
  refine wpAnyH_take (i := 1) (oi := _) (v := (.func (.func 30) #[.pointer none] #[])) rfl (by kernel_rfl) (by kernel_rfl) (by kernel_rfl) (fun _ _ _ h => h) (Or.inl ⟨by rfl, ?_⟩) (by assumption) ?_
  · intro w' hSw
    (try dsimp only at hSw)
    go_simp
  (try simp only [Act.put, List.setIfInBounds_toArray, List.set_cons_zero, List.set_cons_succ])
  refine wpAnyH_take (i := 2) (oi := _) (v := (.int .i64 k)) rfl (by kernel_rfl) (by kernel_rfl) (by kernel_rfl) (fun _ _ _ h => h) (Or.inl ⟨by rfl, ?_⟩) (by assumption) ?_
  · intro w' hSw
    (try dsimp only at hSw)
    go_simp
  (try simp only [Act.put, List.setIfInBounds_toArray, List.set_cons_zero, List.set_cons_succ])
  refine wpAnyH_take (i := 3) (oi := _) (v := (.bool (decide (k < 0)))) rfl (by kernel_rfl) (by kernel_rfl) (by kernel_rfl) (fun _ _ _ h => h) (Or.inl ⟨by rfl, ?_⟩) (by assumption) ?_
  · intro w' hSw
    (try dsimp only at hSw)
    go_simp
  (try simp only [Act.put, List.setIfInBounds_toArray, List.set_cons_zero, List.set_cons_succ])
  refine wpAnyH_take (i := 5) (oi := _) (v := (.pointer none)) rfl (by kernel_rfl) (by kernel_rfl) (by kernel_rfl) (fun _ _ _ h => h) (Or.inl ⟨by rfl, ?_⟩) (by assumption) ?_
  · intro w' hSw
    (try dsimp only at hSw)
    go_simp
  (try simp only [Act.put, List.setIfInBounds_toArray, List.set_cons_zero, List.set_cons_succ])
  refine wpAnyH_take (i := 6) (oi := _) (v := (.string n)) rfl (by kernel_rfl) (by kernel_rfl) (by kernel_rfl) (fun _ _ _ h => h) (Or.inl ⟨by rfl, ?_⟩) (by assumption) ?_
  · intro w' hSw
    (try dsimp only at hSw)
    go_simp
  (try simp only [Act.put, List.setIfInBounds_toArray, List.set_cons_zero, List.set_cons_succ])
  refine wpAnyH_take (i := 8) (oi := _) (v := (.func (.func 40) #[] #[.pointer (some ⟨w.heap.size + 1 + 1, 0, none⟩), .pointer (some ⟨w.heap.size, 0, none⟩), .pointer (some ⟨w.heap.size + 1, 0, none⟩)])) rfl (by kernel_rfl) (by kernel_rfl) (by kernel_rfl) (fun _ _ _ h => h) (Or.inl ⟨by rfl, ?_⟩) (by assumption) ?_
  · intro w' hSw
    (try dsimp only at hSw)
    go_simp
  (try simp only [Act.put, List.setIfInBounds_toArray, List.set_cons_zero, List.set_cons_succ])
  refine wpAnyH_take (i := 9) (oi := _) (v := (.pointer none)) rfl (by kernel_rfl) (by kernel_rfl) (by kernel_rfl) (fun _ _ _ h => h) (Or.inl ⟨by rfl, ?_⟩) (by assumption) ?_
  · intro w' hSw
    (try dsimp only at hSw)
    go_simp
  (try simp only [Act.put, List.setIfInBounds_toArray, List.set_cons_zero, List.set_cons_succ])
  refine wpAnyH_take (i := 10) (oi := _) (v := (.func (.func 39) #[.pointer none] #[])) rfl (by kernel_rfl) (by kernel_rfl) (by kernel_rfl) (fun _ _ _ h => h) (Or.inl ⟨by rfl, ?_⟩) (by assumption) ?_
  · intro w' hSw
    (try dsimp only at hSw)
    go_simp
  (try simp only [Act.put, List.setIfInBounds_toArray, List.set_cons_zero, List.set_cons_succ])
  refine wpAnyH_ready (rs := [4]) (by kernel_rfl) (by simp) ?_
  refine AllReadyH.cons (o := _) rfl (fun K hK => ?_) AllReadyH.nil
  go_simp
  refine (wrong_any _ _ _).mono ?_
  rintro e w1 ⟨rfl, rfl⟩
  refine hK.out _ _ ?_ (fun hHeld => ?_)
  · exact HS.out _ (by repeat (first | assumption | exact Below.refl _ _ | apply Below.drew | refine bel_alloc ?_ _))
  clear hK K
  (try simp only [Act.put, List.setIfInBounds_toArray, List.set_cons_zero, List.set_cons_succ])
  refine wpAnyH_ready (rs := [7]) (by kernel_rfl) (by simp) ?_
  refine AllReadyH.cons (o := _) rfl (fun K hK => ?_) AllReadyH.nil
  go_simp
  refine (there_any _ n _ ⟨_, rfl⟩).mono ?_
  rintro e w1 ⟨rfl, rfl⟩
  refine hK.out _ _ ?_ (fun hHeld => ?_)
  · exact HS.out _ (by repeat (first | assumption | exact Below.refl _ _ | apply Below.drew | refine bel_alloc ?_ _))
  clear hK K
  (try simp only [Act.put, List.setIfInBounds_toArray, List.set_cons_zero, List.set_cons_succ])
  refine wpAnyH_ready (rs := [11]) (by kernel_rfl) (by simp) ?_
  refine AllReadyH.cons (o := _) rfl (fun K hK => ?_) AllReadyH.nil
  go_simp
  refine hK.out _ _ ?_ (fun hHeld => ?_)
  · exact HS.out _ (by repeat (first | assumption | exact Below.refl _ _ | apply Below.drew | refine bel_alloc ?_ _))
  clear hK K
  (try simp only [Act.put, List.setIfInBounds_toArray, List.set_cons_zero, List.set_cons_succ])
  refine wpAnyH_ready (rs := [12]) (by kernel_rfl) (by simp) ?_
  refine AllReadyH.cons (o := _) rfl (fun K hK => ?_) AllReadyH.nil
  go_simp
  refine (first_nil_drew _ _ _ _ ?b0 ?b1 ?b2 ?b3).mono ?_
  case b0 => simp only [World.size_alloc]
  case b1 => rfl
  case b2 => rfl
  case b3 => decide
  rintro e w2 ⟨rfl, hb⟩
  have hq : Below W.heap.size W w2 := (NilPost.back ⟨rfl, hb⟩ (by repeat (first | assumption | exact Below.refl _ _ | apply Below.drew | refine bel_alloc ?_ _))).2
  clear hb
  refine hK.out _ _ ?_ (fun hHeld => ?_)
  · exact HS.out _ (by repeat (first | assumption | exact Below.refl _ _ | apply Below.drew | refine bel_alloc ?_ _))
  clear hK K
  (try simp only [Act.put, List.setIfInBounds_toArray, List.set_cons_zero, List.set_cons_succ])
  refine wpAnyH_ready (rs := [13]) (by kernel_rfl) (by simp) ?_
  refine AllReadyH.cons (o := _) rfl (fun K hK => ?_) AllReadyH.nil
  go_simp
  refine hK.out _ _ ?_ (fun hHeld => ?_)
  · exact HS.out _ (by repeat (first | assumption | exact Below.refl _ _ | apply Below.drew | refine bel_alloc ?_ _))
  clear hK K
  (try simp only [Act.put, List.setIfInBounds_toArray, List.set_cons_zero, List.set_cons_succ])
  refine wpAnyH_done (by kernel_rfl) ?_ _
  have HQ := Lib.hid hq
  clear hq
  go_wp2_with fail
  go_ret
  exact ⟨rfl, HB.out.trans (HQ.out.mono HB.out.size)⟩
end Go.Proofs.YtjlchphbkmaacaaDoor
