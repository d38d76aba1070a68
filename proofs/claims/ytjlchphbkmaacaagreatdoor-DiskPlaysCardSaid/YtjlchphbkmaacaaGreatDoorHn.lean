/- Both disks side by side. -/
import Derived.Test.YtjlchphbkmaacaaGreatDoorHm
import Derived.Test.YtjlchphbkmaacaaGreatDoorFc
import Derived.Test.YtjlchphbkmaacaaGreatDoorFd
set_option linter.unusedVariables false
set_option linter.unusedSimpArgs false
namespace Go.Proofs.YtjlchphbkmaacaaGreatDoor
open Go.RowKit Go.MapKept Go.ChangeMaps Go.Maps
attribute [local go_sem ↓] Go.wp_at_zero Go.wp_at_succ
open Dk

/-- The program's disk as s, the reference's as t; the one beside the other, both beside the arguments. -/
def Dk.Both (w0 : World) (bd rd : Nat) (s t : St) (w : World) : Prop :=
  ∃ ρ σ, Rep ρ w bd s ∧ RefRep σ w rd t ∧ (∀ b, ρ b = none ∨ σ b = none) ∧ (∀ b, b < w0.heap.size → ρ b = none ∧ σ b = none) ∧ Below w0.heap.size w0 w
theorem Dk.RefRep.fresh {σ : Nat → Option Role} {w : World} {rd : Nat} {s : St} (h : RefRep σ w rd s) {b : Nat} (hb : w.heap.size ≤ b) : σ b = none := by
  obtain ⟨_, _, _, h⟩ := h
  cases e : σ b with
  | none => rfl
  | some r => have := h.lt b r e; omega
theorem Dk.Both.below {w0 w w' : World} {bd rd : Nat} {s t : St} (h : Both w0 bd rd s t w) (hb : Below w.heap.size w w') : Both w0 bd rd s t w' := by
  obtain ⟨ρ, σ, h1, h2, h3, h4, h5⟩ := h
  exact ⟨ρ, σ, h1.below hb, h2.below hb, h3, h4, h5.trans (hb.mono h5.size)⟩
theorem Dk.Both.base {w0 w : World} {bd rd : Nat} {s t : St} (h : Both w0 bd rd s t w) : Below w0.heap.size w0 w := by
  obtain ⟨ρ, σ, h1, h2, h3, h4, h5⟩ := h
  exact h5
/-- The program's disk is asked. -/
theorem Dk.Both.look {w0 w : World} {bd rd : Nat} {s t : St} (h : Both w0 bd rd s t w) {f : FuncId} {args : Array Value} {Q : Ending → World → Prop} (k : ∀ ρ bm blk dv, RepX ρ w bd s bm blk dv → Calls Tryz.prog f args w Q) : Calls Tryz.prog f args w Q := by
  obtain ⟨ρ, σ, ⟨bm, blk, dv, h1⟩, h2, h3, h4, h5⟩ := h
  exact k ρ bm blk dv h1
/-- The reference is asked. -/
theorem Dk.Both.rlook {w0 w : World} {bd rd : Nat} {s t : St} (h : Both w0 bd rd s t w) {f : FuncId} {args : Array Value} {Q : Ending → World → Prop} (k : ∀ σ vF fv lv, RefX σ w rd t vF fv lv → Calls Tryz.prog f args w Q) : Calls Tryz.prog f args w Q := by
  obtain ⟨ρ, σ, h1, ⟨vF, fv, lv, h2⟩, h3, h4, h5⟩ := h
  exact k σ vF fv lv h2
def BothPost (w0 : World) (bd rd : Nat) (z : Int) (s t : St) (e : Ending) (w' : World) : Prop := e = .returned (.int .i64 z) ∧ Both w0 bd rd s t w'
/-- The program's disk is changed. -/
theorem Dk.Both.call {w0 w : World} {bd rd : Nat} {s s' t : St} (h : Both w0 bd rd s t w) {f : FuncId} {args : Array Value} {r : Int × St} {z : Int}
    (k : ∀ ρ bm blk dv, (∀ b, b < w0.heap.size → ρ b = none) → Below w0.heap.size w0 w → RepX ρ w bd s bm blk dv → Calls Tryz.prog f args w (MethPost ρ w bd r)) (hr : r = (z, s')) : Calls Tryz.prog f args w (BothPost w0 bd rd z s' t) := by
  obtain ⟨ρ, σ, ⟨bm, blk, dv, h1⟩, h2, h3, h4, h5⟩ := h
  refine (k ρ bm blk dv (fun b hb => (h4 b hb).1) h5 h1).mono fun e w' hp => ?_
  obtain ⟨he, ρ', h6, h7⟩ := hp.of hr
  have hlt : ∀ b x, σ b = some x → b < w.heap.size := fun b x e => by
    obtain ⟨_, _, _, h⟩ := h2
    exact h.lt b x e
  have hno : ∀ b x, σ b = some x → ρ b = none := fun b x e => by
    rcases h3 b with h | h
    · exact h
    · rw [h] at e; cases e
  refine ⟨he, ρ', σ, h6, h2.beside h7.size fun b x e => (h7.block b (hlt b x e) (hno b x e)).1, fun b => ?_, fun b hb => ⟨h7.none h5.size (fun b hb => (h4 b hb).1) b hb, (h4 b hb).2⟩, h5.trans (h7.below h5.size fun b hb => (h4 b hb).1)⟩
  cases e : σ b with
  | none => exact .inr rfl
  | some x => exact .inl (h7.block b (hlt b x e) (hno b x e)).2
/-- The reference is changed. -/
theorem Dk.Both.rcall {w0 w : World} {bd rd : Nat} {s t t' : St} (h : Both w0 bd rd s t w) {f : FuncId} {args : Array Value} {r : Int × St} {z : Int}
    (k : ∀ σ vF fv lv, (∀ b, b < w0.heap.size → σ b = none) → Below w0.heap.size w0 w → RefX σ w rd t vF fv lv → Calls Tryz.prog f args w (RefPost σ w rd r)) (hr : r = (z, t')) : Calls Tryz.prog f args w (BothPost w0 bd rd z s t') := by
  obtain ⟨ρ, σ, ⟨bm, blk, dv, h1⟩, ⟨vF, fv, lv, h2⟩, h3, h4, h5⟩ := h
  refine (k σ vF fv lv (fun b hb => (h4 b hb).2) h5 h2).mono fun e w' hp => ?_
  subst hr
  obtain ⟨he, σ', h6, h7⟩ := hp
  have hno : ∀ b x, ρ b = some x → σ b = none := fun b x e => by
    rcases h3 b with h | h
    · rw [h] at e; cases e
    · exact h
  refine ⟨he, ρ, σ', ⟨bm, blk, dv, h1.beside h7.size fun b x e => (h7.block b (h1.lt b x e) (hno b x e)).1⟩, h6, fun b => ?_, fun b hb => ⟨(h4 b hb).1, h7.none h5.size (fun b hb => (h4 b hb).2) b hb⟩, h5.trans (h7.below h5.size fun b hb => (h4 b hb).2)⟩
  cases e : ρ b with
  | none => exact .inl rfl
  | some x => exact .inr (h7.block b (h1.lt b x e) (hno b x e)).2
/-- Both, laid. -/
theorem Dk.Both.intro {w0 w1 w : World} {bd rd : Nat} {s t : St} {ρ σ : Nat → Option Role} (h1 : Rep ρ w1 bd s) (h2 : ∀ b, b < w0.heap.size → ρ b = none) (h3 : Below w0.heap.size w0 w1) (h4 : RefRep σ w rd t) (h5 : ∀ b, b < w1.heap.size → σ b = none) (h6 : Below w1.heap.size w1 w) : Both w0 bd rd s t w := by
  obtain ⟨bm, blk, dv, h1⟩ := h1
  refine ⟨ρ, σ, ⟨bm, blk, dv, h1.below h6⟩, h4, fun b => ?_, fun b hb => ⟨h2 b hb, h5 b (Nat.lt_of_lt_of_le hb h3.size)⟩, h3.trans (h6.mono h3.size)⟩
  rcases Nat.lt_or_ge b w1.heap.size with h | h
  · exact .inr (h5 b h)
  · exact .inl (h1.fresh h)
end Go.Proofs.YtjlchphbkmaacaaGreatDoor
