/- Rows of questions, and what burns does to the disk. -/
import Derived.Test.YtjlchphbkmaacaaGreatDoorDu
set_option linter.unusedVariables false
set_option linter.unusedSimpArgs false
namespace Go.Proofs.YtjlchphbkmaacaaGreatDoor
open Go.RowKit Go.MapKept Go.ChangeMaps Go.Maps
open Dk

theorem bel_alloc {a w : World} (h : Below a.heap.size a w) (o : Obj) : Below a.heap.size a (w.alloc o) := h.alloc h.size o

/-- A question that tells n in whatever world comes behind W0, and makes new memory alone. -/
def AskIs (P : Program) (W0 : World) (f : Value) (n : Int) : Prop :=
  ∃ k fst cap, f = .func (.func k) fst cap ∧ (∀ W, (callFunc k (fst ++ cap)).run P W = .ok (.enter k (fst ++ cap)) W) ∧
    ∀ W, Below W0.heap.size W0 W → Calls P k (fst ++ cap) W fun e W' => e = .returned (.int .i64 n) ∧ Below W.heap.size W W'

theorem asks_cons {P : Program} {W0 : World} {f : Value} {n : Int} {bs : Nat} {fs : List Value} {W : World} {Q : Int → World → Prop} (h : AskIs P W0 f n) (hb : Below W0.heap.size W0 W) (hbs : bs < W0.heap.size)
    (h0 : n = 0 → ∀ W', Below W0.heap.size W0 W' → Asks P bs fs W' Q) (h1 : n ≠ 0 → ∀ W', Below W0.heap.size W0 W' → Q n W') : Asks P bs (f :: fs) W Q := by
  obtain ⟨k, fst, cap, hf, he, hc⟩ := h
  refine ⟨k, fst, cap, hf, he, (hc W hb).mono ?_⟩
  rintro e W' ⟨rfl, hb'⟩
  have hb2 : Below W0.heap.size W0 W' := hb.trans (hb'.mono hb.size)
  refine ⟨n, rfl, hb'.block bs (Nat.lt_of_lt_of_le hbs hb.size), ?_⟩
  by_cases hn : n = 0
  · exact .inl ⟨hn, h0 hn W' hb2⟩
  · exact .inr ⟨hn, h1 hn W' hb2⟩

namespace Dk
section
variable {ρ : Nat → Option Role} {w w' : World} {bd : Nat} {s : St} {bm : Nat} {blk : Nm → Nat} {dv : Nm → Value}

theorem setBlock_other (w : World) (b : Nat) (o : Obj) {k : Nat} (h : k ≠ b) : (setBlock w b o).heap[k]? = w.heap[k]? := by
  simp only [setBlock, Array.getElem?_setIfInBounds]
  rw [if_neg (fun e => h e.symm)]
theorem setBlock_size (w : World) (b : Nat) (o : Obj) : (setBlock w b o).heap.size = w.heap.size := by simp [setBlock]

theorem RepX.ne_map (h : RepX ρ w bd s bm blk dv) : bm ≠ bd := fun e => by have := h.rm; rw [e, h.rd] at this; cases this
theorem RepX.ne_file (h : RepX ρ w bd s bm blk dv) {x : Nm × Fi} (hx : x ∈ s.F) : blk x.1 ≠ bd := fun e => by have := h.rf x hx; rw [e, h.rd] at this; cases this
theorem RepX.ne_data (h : RepX ρ w bd s bm blk dv) {x : Nm × Fi} (hx : x ∈ s.F) {g : Nat} (hg : (dv x.1).ownBlock = some g) : g ≠ bd := fun e => by have := h.rv x hx g hg; rw [e, h.rd] at this; cases this

/-- The disk's own block is written: its numbers turn. -/
theorem RepX.own (h : RepX ρ w bd s bm blk dv) (q f : Int) (o : Bool) :
    RepX ρ (setBlock w bd (.cells #[.map (some bm), .int .i64 q, .int .i64 f, .bool o] 58 (0, 0))) bd { s with quota := q, fuse := f, off := o } bm blk dv where
  lt := fun b r hr => by rw [setBlock_size]; exact h.lt b r hr
  rd := h.rd
  rm := h.rm
  hd := heap_setBlock h.bdlt _
  hm := ownsMap_block h.hm (setBlock_other _ _ _ h.ne_map)
  rf := h.rf
  hf := fun x hx => (setBlock_other _ _ _ (h.ne_file hx)).trans (h.hf x hx)
  hv := fun x hx => ownsRow_block (h.hv x hx) fun g hg => setBlock_other _ _ _ (h.ne_data hx hg)
  rv := h.rv

theorem Fr.setBlock {ρ : Nat → Option Role} {w : World} {b : Nat} {r : Role} (hr : ρ b = some r) (o : Obj) : Fr ρ ρ w (ChangeMaps.setBlock w b o) :=
  ⟨rfl, rfl, rfl, by rw [setBlock_size]; exact Nat.le_refl _, fun k _ hk => ⟨setBlock_other _ _ _ (fun e => by rw [e, hr] at hk; cases hk), hk⟩⟩
end

/-- What the questions of a call come to: an error; or the power goes; or the call may be done. -/
def AskedQ (ρ : Nat → Option Role) (W0 : World) (bd : Nat) (s : St) (bm : Nat) (blk : Nm → Nat) (dv : Nm → Value) (l : List Int) (n : Int) (W' : World) : Prop :=
  Fr ρ ρ W0 W' ∧ ((first l ≠ 0 ∧ n = first l ∧ RepX ρ W' bd s bm blk dv) ∨ (first l = 0 ∧ s.fuse = 0 ∧ n = 8 ∧ RepX ρ W' bd (burnt s) bm blk dv) ∨
    (first l = 0 ∧ s.fuse ≠ 0 ∧ n = 0 ∧ RepX ρ W' bd (less s) bm blk dv))
end Dk

/-- The last question. -/
theorem asks_burns {ρ : Nat → Option Role} {W0 W : World} {bd : Nat} {s : St} {bm : Nat} {blk : Nm → Nat} {dv : Nm → Value} (h : RepX ρ W0 bd s bm blk dv) (hg : Fine s) (hb : Below W0.heap.size W0 W) {bs : Nat} (hbs : bs < W0.heap.size) (hρ : ρ bs = none)
    {l : List Int} (hl : first l = 0) : Asks Tryz.prog bs [.func (.func 52) #[.pointer (some ⟨bd, 0, none⟩)] #[]] W (AskedQ ρ W0 bd s bm blk dv l) := by
  have h1 := h.below hb
  refine ⟨52, _, _, rfl, (enters_of Tryz.func52 (by kernel_rfl) rfl) _, ?_⟩
  refine (burns_any bd _ _ s.fuse s.off W hg.f0 hg.f1 h1.hd).mono ?_
  rintro e W' ⟨rfl, rfl⟩
  refine ⟨_, rfl, Dk.setBlock_other _ _ _ (fun e => by rw [e, h.rd] at hρ; cases hρ), ?_⟩
  have hfr : Fr ρ ρ W0 (setBlock W bd (.cells #[.map (some bm), .int .i64 s.quota, .int .i64 (if s.fuse = 0 then -1 else if 0 < s.fuse then s.fuse - 1 else s.fuse), .bool (if s.fuse = 0 then true else s.off)] 58 (0, 0))) :=
    (Fr.of_below hb).trans (Fr.setBlock h.rd _)
  have hr := h1.own s.quota (if s.fuse = 0 then -1 else if 0 < s.fuse then s.fuse - 1 else s.fuse) (if s.fuse = 0 then true else s.off)
  by_cases h0 : s.fuse = 0
  · simp only [h0, if_true] at hfr hr ⊢
    exact .inr ⟨by decide, hfr, .inr (.inl ⟨hl, h0, rfl, hr⟩)⟩
  · simp only [h0, if_false] at hfr hr ⊢
    exact .inl ⟨trivial, hfr, .inr (.inr ⟨hl, h0, rfl, hr⟩)⟩

/-- A question told an error. -/
theorem asked_err {ρ : Nat → Option Role} {W0 W' : World} {bd : Nat} {s : St} {bm : Nat} {blk : Nm → Nat} {dv : Nm → Value} (h : RepX ρ W0 bd s bm blk dv) (hb : Below W0.heap.size W0 W') {l : List Int} {n : Int} (hn : n ≠ 0) (hl : first l = n) : AskedQ ρ W0 bd s bm blk dv l n W' :=
  ⟨Fr.of_below hb, .inl ⟨by rw [hl]; exact hn, hl.symm, h.below hb⟩⟩

theorem ask_answers {ρ : Nat → Option Role} {W0 : World} {bd : Nat} {s : St} {bm : Nat} {blk : Nm → Nat} {dv : Nm → Value} (h : RepX ρ W0 bd s bm blk dv) :
    AskIs Tryz.prog W0 (.func (.func 44) #[.pointer (some ⟨bd, 0, none⟩)] #[]) (answers s) :=
  ⟨_, _, _, rfl, (enters_of Tryz.func44 (by kernel_rfl) rfl) _, fun W hb => by
    have h1 := h.below hb
    exact (answers_any bd bm s.off W h1.c0 h1.c3).mono fun e W' ⟨he, hw⟩ => ⟨he, hw ▸ Below.refl _ _⟩⟩

theorem ask_wrong {W0 : World} {a1 a2 : Addr} {b : Bool} {n : Int} (h1 : W0.cell? a1 = some (.bool b)) (h2 : W0.cell? a2 = some (.int .i64 n)) (l1 : a1.block < W0.heap.size) (l2 : a2.block < W0.heap.size) :
    AskIs Tryz.prog W0 (.func (.func 69) #[] #[.pointer (some a1), .pointer (some a2)]) (if b then n else 0) :=
  ⟨_, _, _, rfl, (enters_of Tryz.func69 (by kernel_rfl) rfl) _, fun W hb => by
    exact (wrong1_any b n a1 a2 W ((hb.cell l1).trans h1) ((hb.cell l2).trans h2)).mono fun e W' ⟨he, hw⟩ => ⟨he, hw ▸ Below.refl _ _⟩⟩

theorem ask_there {ρ : Nat → Option Role} {W0 : World} {bd : Nat} {s : St} {bm : Nat} {blk : Nm → Nat} {dv : Nm → Value} (h : RepX ρ W0 bd s bm blk dv) {a1 a2 : Addr} {n : ByteArray} (hn : n.size ≤ maxLen)
    (h1 : W0.cell? a1 = some (.string n)) (h2 : W0.cell? a2 = some (.pointer (some ⟨bd, 0, none⟩))) (l1 : a1.block < W0.heap.size) (l2 : a2.block < W0.heap.size) :
    AskIs Tryz.prog W0 (.func (.func 61) #[] #[.pointer (some a1), .pointer (some a2)]) (there n.data.toList s) :=
  ⟨_, _, _, rfl, (enters_of Tryz.func61 (by kernel_rfl) rfl) _, fun W hb => by
    have hr := h.below hb
    refine (there1_any bd bm n a1 a2 (get n.data.toList s.F).isSome (blk n.data.toList) W hn ((hb.cell l1).trans h1) ((hb.cell l2).trans h2) (Nat.lt_of_lt_of_le l1 hb.size) (Nat.lt_of_lt_of_le l2 hb.size) hr.bdlt hr.c0 ?_).mono fun e W' ⟨he, hw⟩ => ⟨he, hw⟩
    exact fun V hV => (hr.below hV).look n hn⟩
end Go.Proofs.YtjlchphbkmaacaaGreatDoor
