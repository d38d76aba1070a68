/- The reference's disk in memory: which blocks it has, and what each of them holds. -/
import Derived.Test.YtjlchphbkmaacaaGreatDoorHa
import Derived.Test.YtjlchphbkmaacaaGreatDoorFb
set_option linter.unusedVariables false
set_option linter.unusedSimpArgs false
namespace Go.Proofs.YtjlchphbkmaacaaGreatDoor
open Go.RowKit
namespace Dk

def triV (fv lv : Nm → Value) (x : Nm × Fi) : List Value := [.string ⟨x.1.toArray⟩, fv x.1, lv x.1]
def cellsF (fv lv : Nm → Value) (F : List (Nm × Fi)) : List Value := F.flatMap (triV fv lv)
theorem cellsF_len (fv lv : Nm → Value) (F : List (Nm × Fi)) : (cellsF fv lv F).length = F.length * 3 := by
  induction F with
  | nil => rfl
  | cons x r ih =>
    show (triV fv lv x ++ cellsF fv lv r).length = _
    rw [List.length_append, ih, List.length_cons]
    show 3 + _ = _
    omega
theorem cellsF_at (fv lv : Nm → Value) : ∀ (F : List (Nm × Fi)) (k j : Nat) (x : Nm × Fi), F[k]? = some x → j < 3 → (cellsF fv lv F)[k * 3 + j]? = (triV fv lv x)[j]?
  | [], k, j, x, h, _ => by simp at h
  | y :: r, 0, j, x, h, hj => by
    obtain rfl : y = x := by simpa using h
    show (triV fv lv y ++ cellsF fv lv r)[0 * 3 + j]? = _
    rw [Nat.zero_mul, Nat.zero_add, List.getElem?_append_left (by show j < 3; exact hj)]
  | y :: r, k + 1, j, x, h, hj => by
    have h : r[k]? = some x := by simpa using h
    show (triV fv lv y ++ cellsF fv lv r)[(k + 1) * 3 + j]? = _
    rw [List.getElem?_append_right (by show 3 ≤ _; omega)]
    show (cellsF fv lv r)[(k + 1) * 3 + j - 3]? = _
    rw [show (k + 1) * 3 + j - 3 = k * 3 + j by omega]
    exact cellsF_at fv lv r k j x h hj
theorem cellsF_append (fv lv : Nm → Value) (F G : List (Nm × Fi)) : cellsF fv lv (F ++ G) = cellsF fv lv F ++ cellsF fv lv G := List.flatMap_append
theorem cellsF_one (fv lv : Nm → Value) (x : Nm × Fi) : cellsF fv lv [x] = triV fv lv x := by simp [cellsF]
theorem cellsF_take (fv lv : Nm → Value) (F : List (Nm × Fi)) (k : Nat) (hk : k ≤ F.length) : (cellsF fv lv F).take (k * 3) = cellsF fv lv (F.take k) := by
  have h : cellsF fv lv F = cellsF fv lv (F.take k) ++ cellsF fv lv (F.drop k) := by rw [← cellsF_append, List.take_append_drop]
  have hl : (cellsF fv lv (F.take k)).length = k * 3 := by rw [cellsF_len, List.length_take, Nat.min_eq_left hk]
  rw [h, List.take_append_of_le_length (by omega), List.take_of_length_le (by omega)]
theorem cellsF_drop (fv lv : Nm → Value) (F : List (Nm × Fi)) (k : Nat) (hk : k ≤ F.length) : (cellsF fv lv F).drop (k * 3) = cellsF fv lv (F.drop k) := by
  have h : cellsF fv lv F = cellsF fv lv (F.take k) ++ cellsF fv lv (F.drop k) := by rw [← cellsF_append, List.take_append_drop]
  have hl : (cellsF fv lv (F.take k)).length = k * 3 := by rw [cellsF_len, List.length_take, Nat.min_eq_left hk]
  rw [h, List.drop_append_of_le_length (by omega), List.drop_of_length_le (by omega), List.nil_append]
theorem cellsF_congr {fv lv fv' lv' : Nm → Value} {F : List (Nm × Fi)} (h : ∀ x ∈ F, fv x.1 = fv' x.1 ∧ lv x.1 = lv' x.1) : cellsF fv lv F = cellsF fv' lv' F := by
  induction F with
  | nil => rfl
  | cons x r ih =>
    obtain ⟨h1, h2⟩ := h x (by simp)
    show triV fv lv x ++ cellsF fv lv r = triV fv' lv' x ++ cellsF fv' lv' r
    rw [ih fun y hy => h y (by simp [hy])]
    unfold triV
    rw [h1, h2]
theorem cellsF_names {fv lv : Nm → Value} : ∀ {F G : List (Nm × Fi)}, G.map (·.1) = F.map (·.1) → cellsF fv lv G = cellsF fv lv F
  | [], [], _ => rfl
  | [], _ :: _, h => by simp at h
  | _ :: _, [], h => by simp at h
  | x :: r, y :: t, h => by
    simp only [List.map_cons, List.cons.injEq] at h
    show triV fv lv y ++ cellsF fv lv t = triV fv lv x ++ cellsF fv lv r
    rw [cellsF_names h.2]
    unfold triV
    rw [h.1]

/-- All stays but what is listed, and there are new blocks. -/
structure Only (σ : Nat → Option Role) (w w' : World) : Prop where
  os : w'.os = w.os
  tape : w'.tape = w.tape
  output : w'.output = w.output
  size : w.heap.size ≤ w'.heap.size
  block : ∀ b, b < w.heap.size → σ b = none → w'.heap[b]? = w.heap[b]?
def mine (σ : Nat → Option Role) (w : World) (b : Nat) : Prop := (∃ r, σ b = some r) ∨ w.heap.size ≤ b
def newσ (σ : Nat → Option Role) (w w' : World) (b : Nat) : Option Role :=
  match σ b with
  | some r => some r
  | none => if w.heap.size ≤ b ∧ b < w'.heap.size then some .map else none

section
variable {σ : Nat → Option Role} {w w' w'' : World}
theorem Only.refl (σ : Nat → Option Role) (w : World) : Only σ w w := ⟨rfl, rfl, rfl, Nat.le_refl _, fun _ _ _ => rfl⟩
theorem Only.below (h : Only σ w w') (hb : Below w'.heap.size w' w'') : Only σ w w'' :=
  ⟨hb.os.trans h.os, hb.tape.trans h.tape, hb.output.trans h.output, Nat.le_trans h.size hb.size, fun b hl hs => (hb.block b (Nat.lt_of_lt_of_le hl h.size)).trans (h.block b hl hs)⟩
theorem Only.of_below (hb : Below w.heap.size w w') : Only σ w w' := (Only.refl σ w).below hb
theorem Only.setCell (h : Only σ w w') {a : Addr} (ha : mine σ w a.block) (v : Value) : Only σ w (w'.setCell a v) :=
  ⟨h.os, h.tape, h.output, by rw [World.size_setCell]; exact h.size, fun b hl hs => by
    rw [Below.heap_setCell w' a v b ?_]
    · exact h.block b hl hs
    · rintro rfl
      rcases ha with ⟨r, e⟩ | e
      · rw [hs] at e; cases e
      · omega⟩
theorem Only.grown (h : Only σ w w') {row : Option Nat} (hg : w'.grownBy w'' row) (hr : ∀ g, row = some g → mine σ w g) : Only σ w w'' :=
  ⟨hg.os.trans h.os, hg.tape.trans h.tape, hg.output.trans h.output, Nat.le_trans h.size hg.size, fun b hl hs => by
    rw [hg.block b (Nat.lt_of_lt_of_le hl h.size) (fun e => by
      rcases hr b e.symm with ⟨r, e⟩ | e
      · rw [hs] at e; cases e
      · omega)]
    exact h.block b hl hs⟩
theorem Only.fr (h : Only σ w w') : Fr σ (newσ σ w w') w w' :=
  ⟨h.os, h.tape, h.output, h.size, fun b hl hs => ⟨h.block b hl hs, by unfold newσ; rw [hs]; simp; omega⟩⟩
theorem newσ_mine {b : Nat} (h : mine σ w b) (hb : b < w'.heap.size) : ∃ r, newσ σ w w' b = some r := by
  unfold newσ
  cases hs : σ b with
  | some r => exact ⟨r, rfl⟩
  | none =>
    rcases h with ⟨r, e⟩ | e
    · rw [hs] at e; cases e
    · exact ⟨.map, by simp [e, hb]⟩
end

structure RefX (σ : Nat → Option Role) (w : World) (rd : Nat) (s : St) (vF : Value) (fv lv : Nm → Value) : Prop where
  lt : ∀ b r, σ b = some r → b < w.heap.size
  hrd : ∃ r, σ rd = some r
  hd : w.heap[rd]? = some (.cells #[vF, .int .i64 s.quota, .int .i64 s.fuse, .bool s.off] 61 (0, 0))
  row : w.ownsRow 0 80 3 vF s.F.length (cellsF fv lv s.F)
  rr : ∀ g, vF.ownBlock = some g → ∃ r, σ g = some r
  hf : ∀ x ∈ s.F, w.ownsRow 0 5 1 (fv x.1) (fastB x.2).length ((fastB x.2).map encU8)
  hl : ∀ x ∈ s.F, w.ownsRow 0 5 1 (lv x.1) (looseB x.2).length ((looseB x.2).map encU8)
  rf : ∀ x ∈ s.F, ∀ g, (fv x.1).ownBlock = some g → ∃ r, σ g = some r
  rl : ∀ x ∈ s.F, ∀ g, (lv x.1).ownBlock = some g → ∃ r, σ g = some r
def RefRep (σ : Nat → Option Role) (w : World) (rd : Nat) (s : St) : Prop := ∃ vF fv lv, RefX σ w rd s vF fv lv

theorem own_type {w : World} {B : Nat} {e : TypeId} {k : Nat} {v : Value} {n : Nat} {xs : List Value} (h : w.ownsRow B e k v n xs) {g : Nat} (hg : v.ownBlock = some g) : ∃ cur, w.heap[g]? = some (.cells cur e (0, 0)) := by
  rcases h.2 with ⟨e1, _⟩ | ⟨g1, cap, cur, e1, _, h1, _⟩
  · rw [e1] at hg; cases hg
  · rw [e1] at hg
    cases hg
    exact ⟨cur, h1⟩

section
variable {σ : Nat → Option Role} {w w' : World} {rd : Nat} {s : St} {vF : Value} {fv lv : Nm → Value}
theorem RefX.rdlt (h : RefX σ w rd s vF fv lv) : rd < w.heap.size := by
  obtain ⟨r, e⟩ := h.hrd
  exact h.lt _ _ e
theorem RefX.fresh (h : RefX σ w rd s vF fv lv) {b : Nat} (hb : w.heap.size ≤ b) : σ b = none := by
  cases e : σ b with
  | none => rfl
  | some r => have := h.lt _ _ e; omega
theorem RefX.d0 (h : RefX σ w rd s vF fv lv) : w.cell? ⟨rd, 0, none⟩ = some vF := by rw [cell_of_block h.hd]; rfl
theorem RefX.d1 (h : RefX σ w rd s vF fv lv) : w.cell? ⟨rd, 1, none⟩ = some (.int .i64 s.quota) := by rw [cell_of_block h.hd]; rfl
theorem RefX.d2 (h : RefX σ w rd s vF fv lv) : w.cell? ⟨rd, 2, none⟩ = some (.int .i64 s.fuse) := by rw [cell_of_block h.hd]; rfl
theorem RefX.d3 (h : RefX σ w rd s vF fv lv) : w.cell? ⟨rd, 3, none⟩ = some (.bool s.off) := by rw [cell_of_block h.hd]; rfl
theorem RefX.fz (h : RefX σ w rd s vF fv lv) (i : Nat) : w.frozen? ⟨rd, i, none⟩ = false := frozen_of_block h.hd
theorem RefX.form (h : RefX σ w rd s vF fv lv) : ∃ p c, vF = .slice p s.F.length c := by
  rcases h.row.2 with ⟨h1, h2⟩ | ⟨g, cap, cur, hv, _⟩
  · exact ⟨none, 0, by rw [h1, h2]⟩
  · exact ⟨_, _, hv⟩
/-- A file's three cells. -/
theorem RefX.tri (h : RefX σ w rd s vF fv lv) {k : Nat} {x : Nm × Fi} (hx : s.F[k]? = some x) :
    ∃ g c, vF = .slice (some ⟨g, 0, none⟩) s.F.length c ∧ w.cell? ⟨g, k * 3, none⟩ = some (.string ⟨x.1.toArray⟩) ∧ w.cell? ⟨g, k * 3 + 1, none⟩ = some (fv x.1) ∧ w.cell? ⟨g, k * 3 + 2, none⟩ = some (lv x.1) ∧
      (∀ i, w.frozen? ⟨g, i, none⟩ = false) ∧ (∃ r, σ g = some r) ∧ s.F.length ≤ c := by
  have hlt : 0 < s.F.length := by have := (List.getElem?_eq_some_iff.1 hx).1; omega
  rcases h.row.2 with ⟨h1, h2⟩ | ⟨g, cap, cur, hv, _, hg, hc, _, hs, ht⟩
  · omega
  · have hcell : ∀ j, j < 3 → w.cell? ⟨g, k * 3 + j, none⟩ = (triV fv lv x)[j]? := fun j hj => by
      have e := cellsF_at fv lv s.F k j x hx hj
      rw [cell_of_block hg, ← Array.getElem?_toList]
      rw [← ht, List.getElem?_take] at e
      have hkl := (List.getElem?_eq_some_iff.1 hx).1
      rw [if_pos (by omega)] at e
      exact e
    refine ⟨g, cap, hv, hcell 0 (by decide), hcell 1 (by decide), hcell 2 (by decide), fun i => frozen_of_block hg, h.rr g (by rw [hv]; rfl), hc⟩
theorem RefX.below (h : RefX σ w rd s vF fv lv) (hb : Below w.heap.size w w') : RefX σ w' rd s vF fv lv where
  lt := fun b r e => Nat.lt_of_lt_of_le (h.lt b r e) hb.size
  hrd := h.hrd
  hd := (hb.block rd h.rdlt).trans h.hd
  row := ownsRow_block h.row fun g hg => hb.block g (h.row.lt g hg).2
  rr := h.rr
  hf := fun x hx => ownsRow_block (h.hf x hx) fun g hg => hb.block g ((h.hf x hx).lt g hg).2
  hl := fun x hx => ownsRow_block (h.hl x hx) fun g hg => hb.block g ((h.hl x hx).lt g hg).2
  rf := h.rf
  rl := h.rl
theorem RefRep.below (h : RefRep σ w rd s) (hb : Below w.heap.size w w') : RefRep σ w' rd s := by
  obtain ⟨vF, fv, lv, h⟩ := h
  exact ⟨vF, fv, lv, h.below hb⟩
/-- Memory beside it is written. -/
theorem RefRep.beside (h : RefRep σ w rd s) (hsz : w.heap.size ≤ w'.heap.size) (hb : ∀ b r, σ b = some r → w'.heap[b]? = w.heap[b]?) : RefRep σ w' rd s := by
  obtain ⟨vF, fv, lv, h⟩ := h
  refine ⟨vF, fv, lv, fun b r e => Nat.lt_of_lt_of_le (h.lt b r e) hsz, h.hrd, ?_, ownsRow_block h.row fun g hg => ?_, h.rr, fun x hx => ownsRow_block (h.hf x hx) fun g hg => ?_, fun x hx => ownsRow_block (h.hl x hx) fun g hg => ?_, h.rf, h.rl⟩
  · obtain ⟨r, e⟩ := h.hrd
    exact (hb rd r e).trans h.hd
  · obtain ⟨r, e⟩ := h.rr g hg
    exact hb g r e
  · obtain ⟨r, e⟩ := h.rf x hx g hg
    exact hb g r e
  · obtain ⟨r, e⟩ := h.rl x hx g hg
    exact hb g r e
/-- A block of its bytes is neither the disk's own nor the row's. -/
theorem RefX.row_ne (h : RefX σ w rd s vF fv lv) : vF.ownBlock ≠ some rd := fun e => by
  obtain ⟨cur, e2⟩ := own_type h.row e
  rw [h.hd] at e2
  simp only [Option.some.injEq, Obj.cells.injEq] at e2
  exact absurd e2.2.1 (by decide)
theorem RefX.byte_ne (h : RefX σ w rd s vF fv lv) {v : Value} {n : Nat} {xs : List Value} (hv : w.ownsRow 0 5 1 v n xs) {g : Nat} (hg : v.ownBlock = some g) : g ≠ rd ∧ vF.ownBlock ≠ some g := by
  obtain ⟨cur, e2⟩ := own_type hv hg
  refine ⟨fun e => ?_, fun e => ?_⟩
  · rw [e, h.hd] at e2
    simp only [Option.some.injEq, Obj.cells.injEq] at e2
    exact absurd e2.2.1 (by decide)
  · obtain ⟨cur', e3⟩ := own_type h.row e
    rw [e3] at e2
    simp only [Option.some.injEq, Obj.cells.injEq] at e2
    exact absurd e2.2.1 (by decide)
/-- Its new shape, whatever has been done to what is its own. -/
theorem RefX.toX (h : RefX σ w rd s vF fv lv) (ho : Only σ w w') {s' : St} {vF' : Value} {fv' lv' : Nm → Value}
    (hd : w'.heap[rd]? = some (.cells #[vF', .int .i64 s'.quota, .int .i64 s'.fuse, .bool s'.off] 61 (0, 0)))
    (row : w'.ownsRow 0 80 3 vF' s'.F.length (cellsF fv' lv' s'.F)) (rr : ∀ g, vF'.ownBlock = some g → mine σ w g)
    (hf : ∀ x ∈ s'.F, w'.ownsRow 0 5 1 (fv' x.1) (fastB x.2).length ((fastB x.2).map encU8) ∧ ∀ g, (fv' x.1).ownBlock = some g → mine σ w g)
    (hl : ∀ x ∈ s'.F, w'.ownsRow 0 5 1 (lv' x.1) (looseB x.2).length ((looseB x.2).map encU8) ∧ ∀ g, (lv' x.1).ownBlock = some g → mine σ w g) :
    RefX (newσ σ w w') w' rd s' vF' fv' lv' := by
  refine ⟨?_, ?_, hd, row, fun g hg => newσ_mine (rr g hg) (row.lt g hg).2, fun x hx => (hf x hx).1, fun x hx => (hl x hx).1,
    fun x hx g hg => newσ_mine ((hf x hx).2 g hg) ((hf x hx).1.lt g hg).2, fun x hx g hg => newσ_mine ((hl x hx).2 g hg) ((hl x hx).1.lt g hg).2⟩
  · intro b r e
    unfold newσ at e
    cases hs : σ b with
    | some r' => exact Nat.lt_of_lt_of_le (h.lt b r' hs) ho.size
    | none =>
      rw [hs] at e
      simp at e
      omega
  · obtain ⟨r, e⟩ := h.hrd
    exact newσ_mine (.inl ⟨r, e⟩) (Nat.lt_of_lt_of_le (h.lt rd r e) ho.size)
end
end Dk
open Dk
/-- What a call of the reference's leaves: a number, and its disk. -/
def RefPost (σ : Nat → Option Role) (w : World) (rd : Nat) (r : Int × St) (e : Ending) (w' : World) : Prop :=
  e = .returned (.int .i64 r.1) ∧ ∃ σ', RefRep σ' w' rd r.2 ∧ Fr σ σ' w w'
end Go.Proofs.YtjlchphbkmaacaaGreatDoor
