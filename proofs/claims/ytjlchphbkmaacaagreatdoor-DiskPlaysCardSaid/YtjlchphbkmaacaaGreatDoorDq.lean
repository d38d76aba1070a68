/- Plain facts on a disk's files: their names rise. -/
import Derived.Test.YtjlchphbkmaacaaGreatDoorDp
set_option linter.unusedVariables false
set_option linter.unusedSimpArgs false
namespace Go.Proofs.YtjlchphbkmaacaaGreatDoor
namespace Dk

theorem before_lt : ∀ (a b : Nm), bytesBefore a b = true ↔ a < b
  | [], [] => by simp [bytesBefore]
  | [], _ :: _ => by simp [bytesBefore]
  | _ :: _, [] => by simp [bytesBefore]
  | a :: r, b :: s => by
    rw [bytesBefore, Bool.or_eq_true, Bool.and_eq_true, decide_eq_true_eq, beq_iff_eq, before_lt r s, List.cons_lt_cons_iff]

theorem lt_irrefl (a : Nm) : ¬ a < a := List.lt_irrefl a
theorem rise_lt {F : List (Nm × Fi)} (h : F.Pairwise fun x y => bytesBefore x.1 y.1 = true) : (F.map (·.1)).Pairwise (· < ·) :=
  List.pairwise_map.2 (h.imp fun {x y} hxy => (before_lt _ _).1 hxy)
theorem rise_nodup {F : List (Nm × Fi)} (h : F.Pairwise fun x y => bytesBefore x.1 y.1 = true) : (F.map (·.1)).Nodup :=
  (rise_lt h).imp fun {a b} hab => fun e => List.lt_irrefl b (e ▸ hab)
theorem sort_rise {F : List (Nm × Fi)} (h : F.Pairwise fun x y => bytesBefore x.1 y.1 = true) {ss : List Nm} (hp : ss.Perm (F.map (·.1))) : ss.mergeSort (fun x y => decide (x ≤ y)) = F.map (·.1) := by
  have e := mergeSort_of_perm hp
  unfold leB at e
  rw [e]
  refine List.mergeSort_of_pairwise ((rise_lt h).imp fun {a b} hab => ?_)
  simpa using List.le_of_lt hab
/-- A name stands once: whoever bears it is the one that is found. -/
theorem get_of_mem {F : List (Nm × Fi)} (h : F.Pairwise fun x y => bytesBefore x.1 y.1 = true) {x : Nm × Fi} (hx : x ∈ F) : get x.1 F = some x.2 := by
  induction F with
  | nil => cases hx
  | cons y r ih =>
    obtain ⟨hy, hr⟩ := List.pairwise_cons.1 h
    unfold get
    rcases List.mem_cons.1 hx with rfl | hx
    · simp
    · have : ¬ (y.1 == x.1) = true := by
        intro e
        have e' : y.1 = x.1 := by simpa using e
        have := hy x hx
        rw [before_lt, e'] at this
        exact List.lt_irrefl _ this
      rw [List.find?_cons_of_neg (p := fun x_1 : Nm × Fi => x_1.1 == x.1) this]
      exact ih hr hx
theorem get_none {F : List (Nm × Fi)} {n : Nm} (h : get n F = none) : ∀ x ∈ F, x.1 ≠ n := by
  intro x hx e
  unfold get at h
  rw [Option.map_eq_none_iff, List.find?_eq_none] at h
  exact h x hx (by simpa using e)

theorem ins_rise {x : Nm × Fi} : ∀ {F : List (Nm × Fi)}, F.Pairwise (fun x y => bytesBefore x.1 y.1 = true) → (∀ y ∈ F, y.1 ≠ x.1) → (ins x F).Pairwise fun x y => bytesBefore x.1 y.1 = true
  | [], _, _ => by simp [ins]
  | y :: r, h, hn => by
    obtain ⟨hy, hr⟩ := List.pairwise_cons.1 h
    unfold ins
    split
    · rename_i hb
      refine List.pairwise_cons.2 ⟨?_, h⟩
      intro z hz
      rcases List.mem_cons.1 hz with rfl | hz
      · exact hb
      · exact WideShapes.bytes_trans _ _ _ hb (hy z hz)
    · rename_i hb
      refine List.pairwise_cons.2 ⟨?_, ins_rise hr fun z hz => hn z (List.mem_cons_of_mem _ hz)⟩
      intro z hz
      rcases mem_ins.1 hz with rfl | hz
      · rcases WideAt.bytes_total z.1 y.1 (fun e => hn y (by simp) e.symm) with h1 | h1
        · exact absurd h1 hb
        · exact h1
      · exact hy z hz
theorem del_rise {n : Nm} {F : List (Nm × Fi)} (h : F.Pairwise fun x y => bytesBefore x.1 y.1 = true) : (del n F).Pairwise fun x y => bytesBefore x.1 y.1 = true := h.filter _
theorem put_rise {n : Nm} {f : Fi} {F : List (Nm × Fi)} (h : F.Pairwise fun x y => bytesBefore x.1 y.1 = true) : (put n f F).Pairwise fun x y => bytesBefore x.1 y.1 = true :=
  ins_rise (del_rise h) fun y hy => (mem_del.1 hy).2
theorem setF_names (n : Nm) (f : Fi) (F : List (Nm × Fi)) : (setF n f F).map (·.1) = F.map (·.1) := by
  simp only [setF, List.map_map]
  refine List.map_congr_left fun x _ => ?_
  simp only [Function.comp]
  split <;> rfl
theorem rise_names {F G : List (Nm × Fi)} (h : F.Pairwise fun x y => bytesBefore x.1 y.1 = true) (e : G.map (·.1) = F.map (·.1)) : G.Pairwise fun x y => bytesBefore x.1 y.1 = true := by
  have h1 : (F.map (·.1)).Pairwise (fun a b => bytesBefore a b = true) := List.pairwise_map.2 h
  rw [← e] at h1
  exact List.pairwise_map.1 h1
theorem length_ins (x : Nm × Fi) : ∀ F : List (Nm × Fi), (ins x F).length = F.length + 1
  | [] => rfl
  | y :: r => by
    unfold ins
    split
    · rfl
    · simp [length_ins x r]
theorem total_ins (x : Nm × Fi) : ∀ F : List (Nm × Fi), total (ins x F) = x.2.b.length + total F
  | [] => by simp [ins, total]
  | y :: r => by
    unfold ins
    split
    · simp [total]
    · have := total_ins x r
      simp only [total, List.map_cons, List.sum_cons] at this ⊢
      omega
theorem total_del_le (n : Nm) : ∀ F : List (Nm × Fi), total (del n F) ≤ total F
  | [] => by simp [del, total]
  | y :: r => by
    have := total_del_le n r
    unfold del at this ⊢
    rw [List.filter_cons]
    split <;> simp only [total, List.map_cons, List.sum_cons] at this ⊢ <;> omega
theorem length_del_le (n : Nm) (F : List (Nm × Fi)) : (del n F).length ≤ F.length := List.length_filter_le _ _
/-- A file that is there counts among all bytes; without it the others are left. -/
theorem total_del {n : Nm} {f : Fi} : ∀ {F : List (Nm × Fi)}, F.Pairwise (fun x y => bytesBefore x.1 y.1 = true) → get n F = some f → f.b.length + total (del n F) = total F ∧ (del n F).length + 1 = F.length
  | [], _, hg => by simp [get] at hg
  | y :: r, h, hg => by
    obtain ⟨hy, hr⟩ := List.pairwise_cons.1 h
    by_cases e : y.1 = n
    · subst e
      have hf : y.2 = f := by simpa [get] using hg
      have hd : del y.1 (y :: r) = r := by
        unfold del
        rw [List.filter_cons_of_neg (by simp), List.filter_eq_self.2]
        intro z hz
        have := hy z hz
        simp only [Bool.not_eq_true', beq_eq_false_iff_ne]
        intro e
        rw [e, before_lt] at this
        exact List.lt_irrefl _ this
      rw [hd, ← hf]
      simp [total]
    · have hg' : get n r = some f := by
        unfold get at hg ⊢
        rwa [List.find?_cons_of_neg (by simpa using e)] at hg
      obtain ⟨h1, h2⟩ := total_del hr hg'
      have hd : del n (y :: r) = y :: del n r := by
        unfold del
        rw [List.filter_cons_of_pos (by simpa using e)]
      rw [hd]
      simp only [total, List.map_cons, List.sum_cons, List.length_cons] at h1 ⊢
      omega
theorem total_setF {n : Nm} {f g : Fi} : ∀ {F : List (Nm × Fi)}, F.Pairwise (fun x y => bytesBefore x.1 y.1 = true) → get n F = some f → total (setF n g F) + f.b.length = total F + g.b.length
  | [], _, hg => by simp [get] at hg
  | y :: r, h, hg => by
    obtain ⟨hy, hr⟩ := List.pairwise_cons.1 h
    by_cases e : y.1 = n
    · subst e
      have hf : y.2 = f := by simpa [get] using hg
      have hs : setF y.1 g r = r := by
        unfold setF
        conv => rhs; rw [← List.map_id r]
        refine List.map_congr_left fun z hz => ?_
        have := hy z hz
        rw [if_neg]
        · rfl
        · intro e
          have e : z.1 = y.1 := by simpa using e
          rw [e, before_lt] at this
          exact List.lt_irrefl _ this
      have h1 : setF y.1 g (y :: r) = (y.1, g) :: setF y.1 g r := by simp [setF]
      rw [h1, hs, ← hf]
      simp [total]
      omega
    · have hg' : get n r = some f := by
        unfold get at hg ⊢
        rwa [List.find?_cons_of_neg (by simpa using e)] at hg
      have h1 := total_setF (g := g) hr hg'
      have h2 : setF n g (y :: r) = y :: setF n g r := by simp [setF, e]
      rw [h2]
      simp only [total, List.map_cons, List.sum_cons] at h1 ⊢
      omega
theorem mem_setF {n : Nm} {f : Fi} {F : List (Nm × Fi)} {x : Nm × Fi} (h : x ∈ setF n f F) : (x = (n, f) ∧ ∃ g, (n, g) ∈ F) ∨ (x ∈ F ∧ x.1 ≠ n) := by
  unfold setF at h
  obtain ⟨y, hy, rfl⟩ := List.mem_map.1 h
  by_cases e : y.1 = n
  · subst e
    rw [if_pos (by simp)]
    exact .inl ⟨rfl, y.2, hy⟩
  · rw [if_neg (by simpa using e)]
    exact .inr ⟨hy, e⟩
end Dk
end Go.Proofs.YtjlchphbkmaacaaGreatDoor
