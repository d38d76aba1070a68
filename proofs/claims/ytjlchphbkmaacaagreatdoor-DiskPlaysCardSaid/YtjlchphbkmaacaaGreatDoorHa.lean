/- Plain facts on a row of files by rising names: where a name stands. -/
import Derived.Test.YtjlchphbkmaacaaGreatDoorFd
set_option linter.unusedVariables false
set_option linter.unusedSimpArgs false
namespace Go.Proofs.YtjlchphbkmaacaaGreatDoor
namespace Dk

theorem less_before : ∀ a b : Nm, Op.bytesLess a b = bytesBefore a b
  | [], [] => rfl
  | [], _ :: _ => rfl
  | _ :: _, [] => rfl
  | a :: r, b :: s => by rw [Op.bytesLess, bytesBefore, less_before r s]
theorem before_irrefl (a : Nm) : bytesBefore a a = false := by
  cases h : bytesBefore a a with
  | false => rfl
  | true => exact absurd ((before_lt a a).1 h) (lt_irrefl a)
theorem before_trans {a b c : Nm} (h : bytesBefore a b = true) (k : bytesBefore b c = true) : bytesBefore a c = true :=
  (before_lt a c).2 (List.lt_trans ((before_lt a b).1 h) ((before_lt b c).1 k))
theorem before_tri {a b : Nm} (h : a ≠ b) : bytesBefore a b = !bytesBefore b a := by
  cases h1 : bytesBefore a b <;> cases h2 : bytesBefore b a
  · exfalso
    have n1 : ¬ a < b := fun e => by rw [(before_lt a b).2 e] at h1; cases h1
    have n2 : ¬ b < a := fun e => by rw [(before_lt b a).2 e] at h2; cases h2
    exact h (List.le_antisymm (List.not_lt.1 n2) (List.not_lt.1 n1))
  · rfl
  · rfl
  · have := before_trans h1 h2
    rw [before_irrefl] at this
    cases this

def atI (n : Nm) (F : List (Nm × Fi)) : Nat := (F.takeWhile fun x => bytesBefore x.1 n).length
theorem atI_cons (n : Nm) (y : Nm × Fi) (r : List (Nm × Fi)) : atI n (y :: r) = if bytesBefore y.1 n then atI n r + 1 else 0 := by
  unfold atI
  rw [List.takeWhile_cons]
  split <;> rfl
theorem atI_le (n : Nm) : ∀ F : List (Nm × Fi), atI n F ≤ F.length
  | [] => Nat.le_refl _
  | y :: r => by
    have := atI_le n r
    rw [atI_cons, List.length_cons]
    split <;> omega
theorem atI_lt {n : Nm} : ∀ {F : List (Nm × Fi)} {i : Nat} {x : Nm × Fi}, i < atI n F → F[i]? = some x → bytesBefore x.1 n = true
  | [], i, x, h, hx => by simp at hx
  | y :: r, i, x, h, hx => by
    rw [atI_cons] at h
    split at h
    · rename_i hy
      cases i with
      | zero => obtain rfl : y = x := by simpa using hx
                exact hy
      | succ i => exact atI_lt (F := r) (i := i) (by omega) (by simpa using hx)
    · omega
theorem atI_at {n : Nm} : ∀ {F : List (Nm × Fi)} {x : Nm × Fi}, F[atI n F]? = some x → bytesBefore x.1 n = false
  | [], x, hx => by simp at hx
  | y :: r, x, hx => by
    rw [atI_cons] at hx
    split at hx
    · exact atI_at (F := r) (by simpa using hx)
    · rename_i hy
      obtain rfl : y = x := by simpa using hx
      simpa using hy
theorem atI_more {n : Nm} {F : List (Nm × Fi)} {k : Nat} {x : Nm × Fi} (hk : k ≤ atI n F) (hx : F[k]? = some x) (hb : bytesBefore x.1 n = true) : k + 1 ≤ atI n F := by
  rcases Nat.lt_or_ge k (atI n F) with h | h
  · exact h
  · obtain rfl : k = atI n F := by omega
    rw [atI_at hx] at hb
    cases hb
theorem atI_stop {n : Nm} {F : List (Nm × Fi)} {k : Nat} {x : Nm × Fi} (hk : k ≤ atI n F) (hx : F[k]? = some x) (hb : bytesBefore x.1 n = false) : k = atI n F := by
  rcases Nat.lt_or_ge k (atI n F) with h | h
  · rw [atI_lt h hx] at hb
    cases hb
  · omega
theorem at_some {n : Nm} {F : List (Nm × Fi)} (hr : F.Pairwise fun x y => bytesBefore x.1 y.1 = true) {i : Nat} {x : Nm × Fi} (hx : F[i]? = some x) (hn : x.1 = n) : get n F = some x.2 := by
  subst hn
  exact get_of_mem hr (List.mem_of_getElem? hx)
theorem at_none {n : Nm} {F : List (Nm × Fi)} (hr : F.Pairwise fun x y => bytesBefore x.1 y.1 = true) (h : ∀ x, F[atI n F]? = some x → x.1 ≠ n) : get n F = none := by
  cases hg : get n F with
  | none => rfl
  | some f =>
    exfalso
    obtain ⟨j, hj⟩ := List.getElem?_of_mem (get_mem hg)
    rcases Nat.lt_trichotomy j (atI n F) with h1 | h1 | h1
    · have := atI_lt h1 hj
      rw [before_irrefl] at this
      cases this
    · subst h1
      exact h _ hj rfl
    · obtain ⟨hjl, hje⟩ := List.getElem?_eq_some_iff.1 hj
      have hal : atI n F < F.length := by omega
      have h2 := List.pairwise_iff_getElem.1 hr (atI n F) j hal hjl h1
      rw [hje] at h2
      have h3 := atI_at (List.getElem?_eq_getElem hal)
      rw [h3] at h2
      cases h2
/-- Where a file stands. -/
theorem at_get {n : Nm} {F : List (Nm × Fi)} (hr : F.Pairwise fun x y => bytesBefore x.1 y.1 = true) {f : Fi} (hf : get n F = some f) : F[atI n F]? = some (n, f) := by
  have h : ∃ x, F[atI n F]? = some x ∧ x.1 = n := by
    rcases Classical.em (∃ x, F[atI n F]? = some x ∧ x.1 = n) with h | h
    · exact h
    · have := at_none hr fun x hx hn => h ⟨x, hx, hn⟩
      rw [hf] at this
      cases this
  obtain ⟨x, hx, hn⟩ := h
  have h2 := at_some hr hx hn
  rw [hf] at h2
  cases h2
  rw [hx, ← hn]
theorem ins_split {n : Nm} {f : Fi} : ∀ {F : List (Nm × Fi)}, (∀ x ∈ F, x.1 ≠ n) → ins (n, f) F = F.take (atI n F) ++ (n, f) :: F.drop (atI n F)
  | [], _ => rfl
  | y :: r, h => by
    have hy := h y (by simp)
    rw [atI_cons]
    unfold ins
    rw [before_tri (a := n) (b := y.1) (fun e => hy e.symm)]
    cases hb : bytesBefore y.1 n
    · simp
    · simp [ins_split (F := r) fun x hx => h x (by simp [hx])]
theorem ins_head {n : Nm} {f : Fi} : ∀ {G : List (Nm × Fi)}, (∀ z ∈ G, bytesBefore n z.1 = true) → ins (n, f) G = (n, f) :: G
  | [], _ => rfl
  | y :: r, h => by
    unfold ins
    rw [if_pos (h y (by simp))]
theorem del_ins {o n : Nm} {f : Fi} (hno : n ≠ o) : ∀ {G : List (Nm × Fi)}, G.Pairwise (fun x y => bytesBefore x.1 y.1 = true) → del o (ins (n, f) G) = ins (n, f) (del o G)
  | [], _ => by simp [ins, del, hno]
  | y :: r, h => by
    obtain ⟨h1, h2⟩ := List.pairwise_cons.1 h
    have ih := del_ins (f := f) hno h2
    have hcons : ∀ (z : Nm × Fi) (l : List (Nm × Fi)), del o (z :: l) = if z.1 = o then del o l else z :: del o l := fun z l => by
      unfold del
      rw [List.filter_cons]
      by_cases e : z.1 = o <;> simp [e]
    by_cases hb : bytesBefore n y.1 = true
    · rw [show ins (n, f) (y :: r) = (n, f) :: y :: r by unfold ins; rw [if_pos hb], hcons, if_neg hno, hcons]
      by_cases e : y.1 = o
      · rw [if_pos e, ins_head]
        intro z hz
        exact before_trans hb (h1 z (mem_del.1 hz).1)
      · rw [if_neg e]
        show _ = ins (n, f) (y :: del o r)
        unfold ins
        rw [if_pos hb]
    · rw [show ins (n, f) (y :: r) = y :: ins (n, f) r by rw [ins, if_neg hb], hcons, hcons]
      by_cases e : y.1 = o
      · rw [if_pos e, if_pos e, ih]
      · rw [if_neg e, if_neg e, ih]
        show _ = ins (n, f) (y :: del o r)
        rw [ins, if_neg hb]
theorem del_del_comm (o n : Nm) (F : List (Nm × Fi)) : del o (del n F) = del n (del o F) := by
  unfold del
  rw [List.filter_filter, List.filter_filter]
  congr 1
  funext x
  exact Bool.and_comm _ _
theorem put_del {o n : Nm} {f : Fi} {F : List (Nm × Fi)} (hr : F.Pairwise fun x y => bytesBefore x.1 y.1 = true) (hno : o ≠ n) : del o (put n f F) = put n f (del o F) := by
  unfold put
  rw [del_ins (fun e => hno e.symm) (del_rise hr), del_del_comm]

/-! ### what lasts, and what is loose -/
def fastB (f : Fi) : List UInt8 := f.b.take f.fast
def looseB (f : Fi) : List UInt8 := f.b.drop f.fast
theorem fast_loose (f : Fi) : fastB f ++ looseB f = f.b := List.take_append_drop _ _
theorem fastB_len {f : Fi} (h : f.fast ≤ f.b.length) : (fastB f).length = f.fast := by unfold fastB; rw [List.length_take]; omega
theorem looseB_len (f : Fi) : (looseB f).length = f.b.length - f.fast := by unfold looseB; rw [List.length_drop]
end Dk
end Go.Proofs.YtjlchphbkmaacaaGreatDoor
