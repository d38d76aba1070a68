/- What the document's examples say: the steps of awake, in numbers. -/
import Derived.Test.YtjlchphbkmaacaaGreatDoorFc
set_option linter.unusedVariables false
set_option linter.unusedSimpArgs false
namespace Go.Proofs.YtjlchphbkmaacaaGreatDoor
namespace Dk
def aw1 : St := { F := [([97], ⟨[], 0⟩)], quota := 9, fuse := -1, off := false }
def aw2 : St := { F := [([97], ⟨[0, 0, 0, 0, 0], 0⟩)], quota := 9, fuse := -1, off := false }
def aw3 : St := { F := [([97], ⟨[0, 0, 0, 0, 0], 5⟩)], quota := 9, fuse := -1, off := false }
def aw4 : St := { F := [([97], ⟨[0, 0, 0, 0, 0, 120, 121], 5⟩)], quota := 9, fuse := -1, off := false }
def aw5 : St := { F := [([97], ⟨[0, 0, 0, 0, 0, 135], 6⟩)], quota := 9, fuse := -1, off := false }
def aw6 : St := { F := [([97], ⟨[0, 0, 0, 0, 0, 135], 6⟩)], quota := 9, fuse := 1, off := false }
def aw7 : St := { F := [([97], ⟨[0, 0, 0, 0, 0, 135], 6⟩), ([98], ⟨[], 0⟩)], quota := 9, fuse := 0, off := false }
def aw8 : St := { F := [([97], ⟨[0, 0, 0, 0, 0, 135], 6⟩), ([98], ⟨[], 0⟩)], quota := 9, fuse := -1, off := true }
def aw9 : St := { F := [([97], ⟨[0, 0, 0, 0, 0, 135], 6⟩), ([98], ⟨[], 0⟩)], quota := 9, fuse := -1, off := false }
theorem aw_1 : create [97] (fresh 9) = (0, aw1) := by rfl
theorem aw_2 : append [97] [0, 0, 0, 0, 0] aw1 = (0, aw2) := by rfl
theorem aw_2b : append [97] [0, 0, 0, 0, 0] aw2 = (7, aw2) := by rfl
theorem aw_3 : sync [97] aw2 = (0, aw3) := by rfl
theorem aw_4 : append [97] [120, 121] aw3 = (0, aw4) := by rfl
theorem aw_4b : loose [97] aw4 = 2 := by rfl
theorem aw_5 : crash [7] [255] aw4 = aw5 := by rfl
theorem aw_5b : readE [97] aw5 = 0 := by rfl
theorem aw_5c : readB [97] aw5 = [0, 0, 0, 0, 0, 135] := by rfl
theorem aw_6 : fuse 1 aw5 = (0, aw6) := by rfl
theorem aw_7 : create [98] aw6 = (0, aw7) := by rfl
theorem aw_8 : create [99] aw7 = (8, aw8) := by rfl
theorem aw_8b : names aw8 = [] := by rfl
theorem aw_9 : crash [] [] aw8 = aw9 := by rfl
theorem aw_9b : names aw9 = [[97], [98]] := by rfl
theorem aw_10 : create [66] aw9 = (1, aw9) := by rfl

theorem fine0 {q : Int} (h0 : 0 ≤ q) (h1 : q ≤ 4194304) : Fine (fresh q) :=
  ⟨by simp [fresh], by simp [fresh, total], h0, h1, by simp [fresh], by simp [fresh], by simp [fresh], by simp [fresh], List.Pairwise.nil⟩
theorem fine1 : Fine aw1 := by have := (fine0 (q := 9) (by decide) (by decide)).create [97]; rw [aw_1] at this; exact this
theorem fine2 : Fine aw2 := by have := fine1.append [97] [0, 0, 0, 0, 0]; rw [aw_2] at this; exact this
theorem fine3 : Fine aw3 := by have := fine2.sync [97]; rw [aw_3] at this; exact this
theorem fine4 : Fine aw4 := by have := fine3.append [97] [120, 121]; rw [aw_4] at this; exact this
theorem fine5 : Fine aw5 := by have := fine4.crash [7] [255]; rw [aw_5] at this; exact this
theorem fine6 : Fine aw6 := by have := fine5.fuse 1 (by decide); rw [aw_6] at this; exact this
theorem fine7 : Fine aw7 := by have := fine6.create [98]; rw [aw_7] at this; exact this
theorem fine8 : Fine aw8 := by have := fine7.create [99]; rw [aw_8] at this; exact this
theorem fine9 : Fine aw9 := by have := fine8.crash [] []; rw [aw_9] at this; exact this
end Dk

open Dk in
theorem MethPost.of {ρ : Nat → Option Role} {w : World} {bd : Nat} {r : Int × St} {e : Ending} {w' : World} (h : MethPost ρ w bd r e w') {z : Int} {s' : St} (hr : r = (z, s')) : e = .returned (.int .i64 z) ∧ ∃ ρ', Rep ρ' w' bd s' ∧ Fr ρ ρ' w w' := by
  subst hr
  exact h

open Go.RowKit
/-- A disk, none of whose blocks is older than w0. -/
def Dk.At (w0 : World) (bd : Nat) (s : Dk.St) (w : World) : Prop := ∃ ρ, Dk.Rep ρ w bd s ∧ (∀ b, b < w0.heap.size → ρ b = none) ∧ Below w0.heap.size w0 w
open Dk in
theorem Dk.At.below {w0 w w' : World} {bd : Nat} {s : St} (h : At w0 bd s w) (hb : Below w.heap.size w w') : At w0 bd s w' := by
  obtain ⟨ρ, h1, h2, h3⟩ := h
  exact ⟨ρ, h1.below hb, h2, h3.trans (hb.mono h3.size)⟩
def AtPost (w0 : World) (bd : Nat) (z : Int) (s : Dk.St) (e : Ending) (w' : World) : Prop := e = .returned (.int .i64 z) ∧ Dk.At w0 bd s w'
open Dk in
theorem Dk.At.call {w0 w W : World} {bd : Nat} {s s' : St} (h : At w0 bd s w) (hb : Below w.heap.size w W) {f : FuncId} {args : Array Value} {r : Int × St} {z : Int} (k : ∀ ρ bm blk dv, (∀ b, w.heap.size ≤ b → ρ b = none) → RepX ρ W bd s bm blk dv → Calls Tryz.prog f args W (MethPost ρ W bd r)) (hr : r = (z, s')) :
    Calls Tryz.prog f args W (AtPost w0 bd z s') := by
  obtain ⟨ρ, ⟨bm, blk, dv, h1⟩, h2, h3⟩ := h
  refine (k ρ bm blk dv (fun b hb => h1.fresh hb) (h1.below hb)).mono fun e w' hp => ?_
  obtain ⟨he, ρ', h4, h5⟩ := hp.of hr
  have hs := Nat.le_trans h3.size hb.size
  exact ⟨he, ρ', h4, h5.none hs h2, (h3.trans (hb.mono h3.size)).trans (h5.below hs h2)⟩
open Dk in
theorem Dk.At.call2 {w0 w : World} {bd : Nat} {s s' : St} (h : At w0 bd s w) {f : FuncId} {args : Array Value} {r : Int × St} {z : Int} (k : ∀ ρ bm blk dv, (∀ b, b < w0.heap.size → ρ b = none) → Below w0.heap.size w0 w → RepX ρ w bd s bm blk dv → Calls Tryz.prog f args w (MethPost ρ w bd r)) (hr : r = (z, s')) :
    Calls Tryz.prog f args w (AtPost w0 bd z s') := by
  obtain ⟨ρ, ⟨bm, blk, dv, h1⟩, h2, h3⟩ := h
  refine (k ρ bm blk dv h2 h3 h1).mono fun e w' hp => ?_
  obtain ⟨he, ρ', h4, h5⟩ := hp.of hr
  exact ⟨he, ρ', h4, h5.none h3.size h2, h3.trans (h5.below h3.size h2)⟩
/-- .. of a call that changes nothing. -/
theorem Dk.At.look {w0 w : World} {bd : Nat} {s : Dk.St} (h : Dk.At w0 bd s w) {f : FuncId} {args : Array Value} {Q : Ending → World → Prop} (k : ∀ ρ bm blk dv, Dk.RepX ρ w bd s bm blk dv → Calls Tryz.prog f args w Q) :
    Calls Tryz.prog f args w Q := by
  obtain ⟨ρ, ⟨bm, blk, dv, h1⟩, h2, h3⟩ := h
  exact k ρ bm blk dv h1
end Go.Proofs.YtjlchphbkmaacaaGreatDoor
