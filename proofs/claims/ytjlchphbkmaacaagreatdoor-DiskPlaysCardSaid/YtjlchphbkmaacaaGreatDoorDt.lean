/- A crash, file by file. -/
import Derived.Test.YtjlchphbkmaacaaGreatDoorDq
set_option linter.unusedVariables false
set_option linter.unusedSimpArgs false
namespace Go.Proofs.YtjlchphbkmaacaaGreatDoor
namespace Dk

/-- The first i files have been gone through. -/
def crashT (picks : List Nat) (torn : List UInt8) : Nat → Nat → List (Nm × Fi) → List (Nm × Fi)
  | 0, _, F => F
  | _ + 1, _, [] => []
  | i + 1, k, x :: r => if x.2.b.length - x.2.fast = 0 then x :: crashT picks torn i k r else (x.1, crash1 picks torn k x.2) :: crashT picks torn i (k + 1) r
/-- How many of them had loose bytes. -/
def crashK : Nat → Nat → List (Nm × Fi) → Nat
  | 0, k, _ => k
  | _ + 1, k, [] => k
  | i + 1, k, x :: r => if x.2.b.length - x.2.fast = 0 then crashK i k r else crashK i (k + 1) r

variable {picks : List Nat} {torn : List UInt8}

theorem crashT_all : ∀ (F : List (Nm × Fi)) (k : Nat), crashT picks torn F.length k F = crashF picks torn k F
  | [], _ => rfl
  | x :: r, k => by
    simp only [List.length_cons, crashT, crashF]
    rw [crashT_all r k, crashT_all r (k + 1)]
theorem crashT_names : ∀ (i k : Nat) (F : List (Nm × Fi)), (crashT picks torn i k F).map (·.1) = F.map (·.1)
  | 0, _, _ => rfl
  | _ + 1, _, [] => rfl
  | i + 1, k, x :: r => by
    simp only [crashT]
    split <;> simp [crashT_names i]
theorem crashT_length (i k : Nat) (F : List (Nm × Fi)) : (crashT picks torn i k F).length = F.length := by
  have := congrArg List.length (crashT_names (picks := picks) (torn := torn) i k F)
  simpa using this
theorem crashK_le : ∀ (i k : Nat) (F : List (Nm × Fi)), crashK i k F ≤ k + i
  | 0, k, _ => Nat.le_refl _
  | _ + 1, k, [] => by simp [crashK]
  | i + 1, k, x :: r => by
    simp only [crashK]
    split
    · have := crashK_le i k r; omega
    · have := crashK_le i (k + 1) r; omega

theorem setF_cons_ne {n : Nm} {f : Fi} {x : Nm × Fi} {r : List (Nm × Fi)} (h : x.1 ≠ n) : setF n f (x :: r) = x :: setF n f r := by simp [setF, h]
theorem get_cons_ne {n : Nm} {x : Nm × Fi} {r : List (Nm × Fi)} (h : x.1 ≠ n) : get n (x :: r) = get n r := by
  unfold get
  rw [List.find?_cons_of_neg (by simpa using h)]
theorem setF_absent {n : Nm} {f : Fi} {r : List (Nm × Fi)} (h : ∀ x ∈ r, x.1 ≠ n) : setF n f r = r := by
  unfold setF
  conv => rhs; rw [← List.map_id r]
  refine List.map_congr_left fun x hx => ?_
  rw [if_neg (by simpa using h x hx)]
  rfl

/-- One file more. -/
theorem crashT_step : ∀ (i k : Nat) (F : List (Nm × Fi)) (x : Nm × Fi), F.Pairwise (fun x y => bytesBefore x.1 y.1 = true) → F[i]? = some x →
    get x.1 (crashT picks torn i k F) = some x.2 ∧
    crashT picks torn (i + 1) k F = (if x.2.b.length - x.2.fast = 0 then crashT picks torn i k F else setF x.1 (crash1 picks torn (crashK i k F) x.2) (crashT picks torn i k F)) ∧
    crashK (i + 1) k F = (if x.2.b.length - x.2.fast = 0 then crashK i k F else crashK i k F + 1)
  | _, _, [], _, _, hi => by simp at hi
  | 0, k, y :: r, x, h, hi => by
    obtain rfl : y = x := by simpa using hi
    obtain ⟨hy, hr⟩ := List.pairwise_cons.1 h
    have hne : ∀ z ∈ r, z.1 ≠ y.1 := fun z hz e => by
      have := hy z hz
      rw [e, before_lt] at this
      exact List.lt_irrefl _ this
    refine ⟨by simp [crashT, get], ?_, ?_⟩
    · simp only [crashT, crashK]
      split
      · rfl
      · have : setF y.1 (crash1 picks torn k y.2) (y :: r) = (y.1, crash1 picks torn k y.2) :: setF y.1 (crash1 picks torn k y.2) r := by simp [setF]
        rw [this, setF_absent hne]
    · simp only [crashK]
  | i + 1, k, y :: r, x, h, hi => by
    obtain ⟨hy, hr⟩ := List.pairwise_cons.1 h
    have hi' : r[i]? = some x := by simpa using hi
    have hx : x ∈ r := List.mem_of_getElem? hi'
    have hne : y.1 ≠ x.1 := fun e => by
      have := hy x hx
      rw [e, before_lt] at this
      exact List.lt_irrefl _ this
    by_cases hl : y.2.b.length - y.2.fast = 0
    · obtain ⟨h1, h2, h3⟩ := crashT_step i k r x hr hi'
      have e1 : crashT picks torn (i + 1) k (y :: r) = y :: crashT picks torn i k r := by simp only [crashT]; rw [if_pos hl]
      have e2 : crashT picks torn (i + 1 + 1) k (y :: r) = y :: crashT picks torn (i + 1) k r := by rw [crashT, if_pos hl]
      have e3 : crashK (i + 1) k (y :: r) = crashK i k r := by simp only [crashK]; rw [if_pos hl]
      have e4 : crashK (i + 1 + 1) k (y :: r) = crashK (i + 1) k r := by rw [crashK, if_pos hl]
      rw [e1, e2, e3, e4, h2, h3]
      refine ⟨by rw [get_cons_ne hne]; exact h1, ?_, rfl⟩
      split
      · rfl
      · rw [setF_cons_ne hne]
    · obtain ⟨h1, h2, h3⟩ := crashT_step i (k + 1) r x hr hi'
      have e1 : crashT picks torn (i + 1) k (y :: r) = (y.1, crash1 picks torn k y.2) :: crashT picks torn i (k + 1) r := by simp only [crashT]; rw [if_neg hl]
      have e2 : crashT picks torn (i + 1 + 1) k (y :: r) = (y.1, crash1 picks torn k y.2) :: crashT picks torn (i + 1) (k + 1) r := by rw [crashT, if_neg hl]
      have e3 : crashK (i + 1) k (y :: r) = crashK i (k + 1) r := by simp only [crashK]; rw [if_neg hl]
      have e4 : crashK (i + 1 + 1) k (y :: r) = crashK (i + 1) (k + 1) r := by rw [crashK, if_neg hl]
      rw [e1, e2, e3, e4, h2, h3]
      refine ⟨by rw [get_cons_ne (x := (y.1, crash1 picks torn k y.2)) hne]; exact h1, ?_, rfl⟩
      split
      · rfl
      · rw [setF_cons_ne (x := (y.1, crash1 picks torn k y.2)) hne]
end Dk
end Go.Proofs.YtjlchphbkmaacaaGreatDoor
