/- burns; the questions of Create and Truncate. -/
import Derived.Test.YtjlchphbkmaacaaGreatDoorDm
import Derived.Deep.RegionHeld3
import Derived.StillTailTactics
import Derived.Deep.DrawnRows
set_option linter.unusedVariables false
set_option linter.unusedSimpArgs false
namespace Go.Proofs.YtjlchphbkmaacaaGreatDoor
open Go.RowKit Go.MapKept Go.ChangeMaps
attribute [local go_sem ↓] Go.wp_at_zero Go.wp_at_succ

theorem setCell_eq (w : World) (b i : Nat) (v : Value) (c : Array Value) (t : TypeId) (fr : Nat × Nat) (h : w.heap[b]? = some (.cells c t fr)) :
    w.setCell ⟨b, i, none⟩ v = setBlock w b (.cells (c.setIfInBounds i v) t fr) := by
  unfold World.setCell setBlock
  congr 1
  apply Array.ext_getElem?
  intro k
  have hb : b < w.heap.size := (Array.getElem?_eq_some_iff.1 h).1
  rw [Array.getElem?_modify, Array.getElem?_setIfInBounds]
  by_cases hk : b = k
  · subst hk
    rw [if_pos rfl, if_pos rfl, if_pos hb, h]
    rfl
  · rw [if_neg hk, if_neg hk]
theorem heap_setBlock {w : World} {b : Nat} (hb : b < w.heap.size) (o : Obj) : (setBlock w b o).heap[b]? = some o := by
  simp [setBlock, hb]
theorem setBlock_twice (w : World) (b : Nat) (o o' : Obj) : setBlock (setBlock w b o) b o' = setBlock w b o' := by
  simp [setBlock]
theorem setBlock_self (w : World) (b : Nat) (o : Obj) (h : w.heap[b]? = some o) : setBlock w b o = w := by
  unfold setBlock
  have : w.heap.setIfInBounds b o = w.heap := by
    apply Array.ext_getElem?
    intro k
    rw [Array.getElem?_setIfInBounds]
    split
    · rename_i hk; subst hk
      have hb := (Array.getElem?_eq_some_iff.1 h).1
      rw [if_pos hb, h]
    · rfl
  rw [this]

theorem heap_two (w : World) (o1 o2 : Obj) : ((w.alloc o1).alloc o2).heap[w.heap.size]? = some o1 ∧ ((w.alloc o1).alloc o2).heap[w.heap.size + 1]? = some o2 := by
  refine ⟨?_, ?_⟩
  · show ((w.heap.push o1).push o2)[w.heap.size]? = _
    rw [Array.getElem?_push, if_neg (by simp), Array.getElem?_push, if_pos rfl]
  · show ((w.heap.push o1).push o2)[w.heap.size + 1]? = _
    rw [Array.getElem?_push, if_pos (by simp)]
/-- The question that wrong has just made. -/
theorem wrong1_new (b : Bool) (e : Int) (w : World) :
    Calls Tryz.prog 69 #[.pointer (some ⟨w.heap.size, 0, none⟩), .pointer (some ⟨w.heap.size + 1, 0, none⟩)] ((w.alloc (.cells #[.bool b] 4)).alloc (.cells #[.int .i64 e] 25))
      fun r w' => r = .returned (.int .i64 (if b then e else 0)) ∧ w' = (w.alloc (.cells #[.bool b] 4)).alloc (.cells #[.int .i64 e] 25) :=
  wrong1_any b e _ _ _ (by rw [Dk.cell_of_block (heap_two w _ _).1]; rfl) (by rw [Dk.cell_of_block (heap_two w _ _).2]; rfl)
theorem wrong1_new_drew (b : Bool) (e : Int) (w : World) :
    Calls Tryz.prog 69 #[.pointer (some ⟨w.heap.size, 0, none⟩), .pointer (some ⟨w.heap.size + 1, 0, none⟩)] ((w.alloc (.cells #[.bool b] 4)).alloc (.cells #[.int .i64 e] 25)).drew
      fun r w' => r = .returned (.int .i64 (if b then e else 0)) ∧ w' = ((w.alloc (.cells #[.bool b] 4)).alloc (.cells #[.int .i64 e] 25)).drew :=
  wrong1_new b e w.drew

/-- What burns leaves of the disk's own block. -/
def BurnsPost (bd : Nat) (mv qv : Value) (fu : Int) (off : Bool) (w : World) (e : Ending) (w' : World) : Prop :=
  e = .returned (.int .i64 (if fu = 0 then 8 else 0)) ∧
      w' = setBlock w bd (.cells #[mv, qv, .int .i64 (if fu = 0 then -1 else if 0 < fu then fu - 1 else fu), .bool (if fu = 0 then true else off)] 58 (0, 0))

set_option maxHeartbeats 400000 in
theorem burns_any (bd : Nat) (mv qv : Value) (fu : Int) (off : Bool) (w : World) (h1 : -1 ≤ fu) (h2 : fu ≤ 9223372036854775807)
    (hd : w.heap[bd]? = some (.cells #[mv, qv, .int .i64 fu, .bool off] 58 (0, 0))) :
    Calls Tryz.prog 52 #[.pointer (some ⟨bd, 0, none⟩)] w (BurnsPost bd mv qv fu off w) := by
  have c2 : w.cell? ⟨bd, 2, none⟩ = some (.int .i64 fu) := by rw [Dk.cell_of_block hd]; rfl
  have c3 : w.cell? ⟨bd, 3, none⟩ = some (.bool off) := by rw [Dk.cell_of_block hd]; rfl
  have f2 : w.frozen? ⟨bd, 2, none⟩ = false := Dk.frozen_of_block hd
  have f3 : w.frozen? ⟨bd, 3, none⟩ = false := Dk.frozen_of_block hd
  have Hd := Lib.hid hd
  have hb : bd < w.heap.size := (Array.getElem?_eq_some_iff.1 hd).1
  clear hd
  by_cases h0 : fu = 0
  · subst h0
    go_enter Tryz.func52, Tryz.ntmps52
    go_wp2
    go_ret
    refine ⟨rfl, ?_⟩
    rw [setCell_eq w bd 3 (.bool true) _ _ _ Hd.out, setCell_eq _ bd 2 (.int .i64 (-1)) _ _ _ (heap_setBlock hb _), setBlock_twice]
    rfl
  · have n0 : (fu == 0) = false := by simpa using h0
    have HH := Lib.hid h0
    by_cases hp : 0 < fu
    · have p0 : decide (fu > 0) = true := by simpa using hp
      clear h0
      go_enter Tryz.func52, Tryz.ntmps52
      go_wp2
      go_ret
      have h0 := HH.out
      refine ⟨by rw [if_neg h0]; rfl, ?_⟩
      rw [setCell_eq w bd 2 _ _ _ _ Hd.out, if_neg h0, if_pos hp, if_neg h0]
      rfl
    · have p0 : decide (fu > 0) = false := by simpa using hp
      have HP := Lib.hid hp
      clear h0 hp
      go_enter Tryz.func52, Tryz.ntmps52
      go_wp2
      go_ret
      have h0 := HH.out
      have hp := HP.out
      refine ⟨by rw [if_neg h0]; rfl, ?_⟩
      rw [if_neg h0, if_neg (by omega), if_neg h0]
      exact (setBlock_self w bd _ Hd.out).symm

set_option maxRecDepth 100000 in
set_option maxHeartbeats 1000000 in
theorem create1_any (bd bm : Nat) (s : ByteArray) (a1 a2 : Addr) (pv : Bool) (g : Nat) (w : World)
    (h1 : w.cell? a1 = some (.pointer (some ⟨bd, 0, none⟩))) (h2 : w.cell? a2 = some (.string s))
    (h0 : w.cell? ⟨bd, 0, none⟩ = some (.map (some bm)))
    (hl : ∀ W, Below w.heap.size w W → (Instr.lookup 56 (.map (some bm)) (.string s) false).run Tryz.prog W = .ok (if pv then .pointer (some ⟨g, 0, none⟩) else .pointer none) W) :
    Calls Tryz.prog 50 #[.pointer (some a1), .pointer (some a2)] w fun e w' => e = .returned (.int .i64 (if pv then 9 else 0)) ∧ Below w.heap.size w w' := by
  have gl := hl w.drew (Below.refl _ _).drew
  clear hl
  cases pv
  all_goals
    simp only [if_true, if_false, Bool.false_eq_true] at gl
    go_enter Tryz.func50, Tryz.ntmps50
    go_wp2_with fail
    go_region_held3 (fun w' => w'.cell? a1 = some (.pointer (some ⟨bd, 0, none⟩)) ∧ w'.cell? a2 = some (.string s) ∧ w'.cell? ⟨bd, 0, none⟩ = some (.map (some bm))) (go_keep)
      (first
        | (go_at_call 49; refine (wrong_any _ _ _).mono ?_; rintro e w' ⟨rfl, rfl⟩)
        | (go_at_call 69; refine (wrong1_new_drew _ _ _).mono ?_; rintro e w' ⟨rfl, rfl⟩))
    go_wp2_with fail
    go_ret
    exact ⟨rfl, by repeat (first | exact Below.refl _ _ | apply Below.drew | refine Below.alloc ?_ (by simp) _)⟩
end Go.Proofs.YtjlchphbkmaacaaGreatDoor
