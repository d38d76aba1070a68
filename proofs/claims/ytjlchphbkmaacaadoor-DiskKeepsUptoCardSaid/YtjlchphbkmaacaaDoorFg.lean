/- DiskErrors: the walk. -/
import Derived.Test.YtjlchphbkmaacaaDoorFf
set_option linter.unusedVariables false
set_option linter.unusedSimpArgs false
namespace Go.Proofs.YtjlchphbkmaacaaDoor
open Go.RowKit Go.MapKept Go.ChangeMaps Go.Maps
attribute [local go_sem ↓] Go.wp_at_zero Go.wp_at_succ
open Dk

/-- A call that came in. -/
structure Dk.ActV.In (A : ActV) (w : World) : Prop where
  nm : A.nm.size ≤ maxLen
  ot : A.ot.size ≤ maxLen
  b : BytesAt w A.pb A.mb A.bs
  bc : A.pb = none → A.cb = 0
  bm : A.mb ≤ 140737488355328
  p0 : A.picks.length = A.mp
  p1 : ∀ x ∈ A.picks, x < 65536
  p2 : ∀ j, j < A.mp → ∃ a, A.pp = some a ∧ w.cell? (a.add j) = some (.int .u16 (A.picks.getD j 0))
  p3 : 0 < A.mp → ∀ a, A.pp = some a → a.block < w.heap.size
  n1 : A.n ≤ 9223372036854775807
theorem Dk.ActV.In.ok {A : ActV} {w w' : World} {ρ : Nat → Option Role} (h : A.In w) (hρ : ∀ b, b < w.heap.size → ρ b = none) (hb : Below w.heap.size w w') : A.Ok ρ w' where
  nm := h.nm
  ot := h.ot
  b := h.b.keep fun a _ hlt => hb.block _ hlt
  bc := h.bc
  bm := h.bm
  p := ⟨h.p0, h.p1, fun j hj => by
    obtain ⟨a, e, hc⟩ := h.p2 j hj
    exact ⟨a, e, (hb.cell (cell_lt hc)).trans hc⟩, fun h0 a e => hρ _ (h.p3 h0 a e)⟩
/-- Calls that came in, in a row: six cells each. -/
structure Dk.ActsAt (w : World) (p : Option Addr) (m : Nat) : Prop where
  each : ∀ i, i < m → ∃ (b o : Nat) (A : ActV), p = some ⟨b, o, none⟩ ∧ b < w.heap.size ∧ A.In w ∧ w.cell? ⟨b, o + i * 6, none⟩ = some (.int .i64 A.what) ∧ w.cell? ⟨b, o + i * 6 + 1, none⟩ = some (.string A.nm) ∧ w.cell? ⟨b, o + i * 6 + 2, none⟩ = some (.string A.ot) ∧ w.cell? ⟨b, o + i * 6 + 3, none⟩ = some (.slice A.pb A.mb A.cb) ∧ w.cell? ⟨b, o + i * 6 + 4, none⟩ = some (.int .i64 A.n) ∧ w.cell? ⟨b, o + i * 6 + 5, none⟩ = some (.slice A.pp A.mp A.cp)

namespace Dk
theorem asked_three {l : List Int} {s : St} {k : St → St} (hl : ∀ z ∈ l, z ≠ 8) (h0 : 0 ≤ s.fuse) (hk : (k (Dk.less s)).fuse = (Dk.less s).fuse ∧ (k (Dk.less s)).off = s.off) (ho : s.off = false) :
    ((asked l s k).1 = 0 ∧ 0 < s.fuse ∧ (asked l s k).2.fuse = s.fuse - 1 ∧ (asked l s k).2.off = false) ∨ ((asked l s k).1 = 8 ∧ s.fuse = 0 ∧ (asked l s k).2.off = true) ∨ ((asked l s k).1 ≠ 0 ∧ (asked l s k).1 ≠ 8 ∧ (asked l s k).2 = s) := by
  by_cases hf : first l = 0
  · by_cases hz : s.fuse = 0
    · rw [asked_off hf hz]
      exact .inr (.inl ⟨rfl, hz, rfl⟩)
    · rw [asked_ok hf hz]
      refine .inl ⟨rfl, by omega, ?_, by rw [hk.2, ho]⟩
      rw [hk.1]
      simp only [Dk.less]
      rw [if_pos (by omega)]
  · rw [asked_err hf]
    refine .inr (.inr ⟨hf, ?_, rfl⟩)
    have : ∀ {l : List Int}, first l ≠ 0 → first l ∈ l := by
      intro l
      induction l with
      | nil => intro h; exact absurd rfl h
      | cons a r ih =>
        intro h
        unfold first at h ⊢
        split
        · rename_i ha
          rw [if_pos ha] at h
          exact List.mem_cons_of_mem _ (ih h)
        · exact List.mem_cons_self
    exact hl _ (this hf)
theorem there_ne8 (n : Nm) (s : St) : there n s ≠ 8 := by
  unfold there
  repeat' split
  all_goals decide
theorem doF_three (A : ActV) {s : St} (h0 : 0 ≤ s.fuse) (ho : s.off = false) (hw0 : 0 ≤ A.what) (hw5 : A.what ≤ 5) :
    ((doF A s).1 = 0 ∧ 0 < s.fuse ∧ (doF A s).2.fuse = s.fuse - 1 ∧ (doF A s).2.off = false) ∨ ((doF A s).1 = 8 ∧ s.fuse = 0 ∧ (doF A s).2.off = true) ∨ ((doF A s).1 ≠ 0 ∧ (doF A s).1 ≠ 8 ∧ (doF A s).2 = s) := by
  have ha : answers s = 0 := by simp [answers, ho]
  have hc : A.what = 0 ∨ A.what = 1 ∨ A.what = 2 ∨ A.what = 3 ∨ A.what = 4 ∨ A.what = 5 := by omega
  have key : ∀ z : Int, (z = 0 ∨ z = 1 ∨ z = 6 ∨ z = 7 ∨ z = 9) → z ≠ 8 := by omega
  have hall : ∀ {l : List Int}, (∀ z ∈ l, z = 0 ∨ z = 1 ∨ z = 6 ∨ z = 7 ∨ z = 9) → ∀ z ∈ l, z ≠ 8 := fun h z hz => key z (h z hz)
  have ht : ∀ n, there n s = 0 ∨ there n s = 1 ∨ there n s = 6 ∨ there n s = 7 ∨ there n s = 9 := by
    intro n
    unfold there
    repeat' split
    all_goals simp
  have hi : ∀ (c : Prop) [Decidable c] (a b : Int), (a = 0 ∨ a = 1 ∨ a = 6 ∨ a = 7 ∨ a = 9) → (b = 0 ∨ b = 1 ∨ b = 6 ∨ b = 7 ∨ b = 9) → ((if c then a else b) = 0 ∨ (if c then a else b) = 1 ∨ (if c then a else b) = 6 ∨ (if c then a else b) = 7 ∨ (if c then a else b) = 9) := by
    intro c _ a b h1 h2
    split
    · exact h1
    · exact h2
  unfold doF
  rcases hc with h | h | h | h | h | h <;> simp only [h, if_true, show ((1 : Int) = 0) = False by simp, show ((2 : Int) = 0) = False by simp, show ((2 : Int) = 1) = False by simp, show ((3 : Int) = 0) = False by simp, show ((3 : Int) = 1) = False by simp, show ((3 : Int) = 2) = False by simp, show ((4 : Int) = 0) = False by simp, show ((4 : Int) = 1) = False by simp, show ((4 : Int) = 2) = False by simp, show ((4 : Int) = 3) = False by simp, show ((5 : Int) = 0) = False by simp, show ((5 : Int) = 1) = False by simp, show ((5 : Int) = 2) = False by simp, show ((5 : Int) = 3) = False by simp, show ((5 : Int) = 4) = False by simp, if_false]
  · refine asked_three (hall ?_) h0 ⟨rfl, rfl⟩ ho
    simp only [List.mem_cons, List.not_mem_nil, or_false, ha]
    rintro z (rfl | rfl | rfl | rfl)
    · simp
    · exact hi _ _ _ (by simp) (by simp)
    · exact hi _ _ _ (by simp) (by simp)
    · exact hi _ _ _ (by simp) (by simp)
  · refine asked_three (hall ?_) h0 ⟨rfl, rfl⟩ ho
    simp only [List.mem_cons, List.not_mem_nil, or_false, ha]
    rintro z (rfl | rfl | rfl)
    · simp
    · exact ht _
    · exact hi _ _ _ (by simp) (by simp)
  · refine asked_three (hall ?_) h0 ⟨rfl, rfl⟩ ho
    simp only [List.mem_cons, List.not_mem_nil, or_false, ha]
    rintro z (rfl | rfl)
    · simp
    · exact ht _
  · refine asked_three (hall ?_) h0 ?_ ho
    · simp only [List.mem_cons, List.not_mem_nil, or_false, ha]
      rintro z (rfl | rfl | rfl)
      · simp
      · exact hi _ _ _ (by simp) (by simp)
      · exact ht _
    · split <;> exact ⟨rfl, rfl⟩
  · refine asked_three (hall ?_) h0 ⟨rfl, rfl⟩ ho
    simp only [List.mem_cons, List.not_mem_nil, or_false, ha]
    rintro z (rfl | rfl | rfl | rfl)
    · simp
    · exact hi _ _ _ (by simp) (by simp)
    · exact ht _
    · exact hi _ _ _ (by simp) (by simp)
  · refine asked_three (hall ?_) h0 ⟨rfl, rfl⟩ ho
    simp only [List.mem_cons, List.not_mem_nil, or_false, ha]
    rintro z (rfl | rfl)
    · simp
    · exact ht _
end Dk
end Go.Proofs.YtjlchphbkmaacaaDoor
