/- What may be relied on stays so, whatever is called. -/
import Derived.Test.YtjlchphbkmaacaaGreatDoorEb
import Derived.Test.YtjlchphbkmaacaaGreatDoorDt
set_option linter.unusedVariables false
set_option linter.unusedSimpArgs false
namespace Go.Proofs.YtjlchphbkmaacaaGreatDoor
namespace Dk

theorem first_at {l : List Int} (h : first l = 0) : ∀ z ∈ l, z = 0 := by
  induction l with
  | nil => simp
  | cons a r ih =>
    unfold first at h
    split at h
    · rename_i ha
      intro z hz
      rcases List.mem_cons.1 hz with rfl | hz
      · exact ha
      · exact ih h z hz
    · rename_i ha
      exact absurd h ha
theorem Fine.burnt {s : St} (h : Fine s) : Fine (burnt s) := ⟨h.files, h.bytes, h.q0, h.q1, by simp [Dk.burnt], by simp [Dk.burnt], h.fast, h.name, h.rise⟩
theorem Fine.asked {l : List Int} {s : St} {k : St → St} (h : Fine s) (hk : first l = 0 → s.fuse ≠ 0 → Fine (k (Dk.less s))) : Fine (Dk.asked l s k).2 := by
  unfold Dk.asked
  split
  · rename_i hl
    unfold burn
    split
    · exact h.burnt
    · rename_i h0
      exact hk hl h0
  · exact h
theorem Fine.withF {s : St} (h : Fine s) {F : List (Nm × Fi)} (h1 : F.length ≤ 512) (h2 : total F ≤ 4194304) (h3 : ∀ x ∈ F, x.2.fast ≤ x.2.b.length) (h4 : ∀ x ∈ F, x.1.length ≤ 32) (h5 : F.Pairwise fun x y => bytesBefore x.1 y.1 = true) : Fine { s with F := F } :=
  ⟨h1, h2, h.q0, h.q1, h.f0, h.f1, h3, h4, h5⟩
theorem may_le {n : Nm} (h : may n = true) : n.length ≤ 32 := by
  unfold may at h
  simp only [Bool.and_eq_true, decide_eq_true_eq] at h
  exact h.1.2
theorem off_of {s : St} (h : answers s = 0) : s.off = false := by
  unfold answers at h
  cases ho : s.off
  · rfl
  · rw [ho] at h; simp at h
theorem get_there {n : Nm} {s : St} (h : there n s = 0) : ∃ f, get n s.F = some f ∧ may n = true := by
  unfold there at h
  split at h
  · rename_i hm
    split at h
    · rename_i hs
      obtain ⟨f, hf⟩ := Option.isSome_iff_exists.1 hs
      exact ⟨f, hf, hm⟩
    · cases h
  · cases h
theorem Fine.setF {s : St} (h : Fine s) {n : Nm} {f g : Fi} (hf : get n s.F = some f) (hb : total s.F + g.b.length ≤ 4194304 + f.b.length) (hg : g.fast ≤ g.b.length) : Fine { s with F := setF n g s.F } := by
  have ht := total_setF (g := g) h.rise hf
  have hn := setF_names n g s.F
  refine h.withF ?_ (by omega) ?_ ?_ (rise_names h.rise hn)
  · have := congrArg List.length hn
    simp only [List.length_map] at this
    have := h.files
    omega
  · intro x hx
    rcases mem_setF hx with ⟨rfl, _⟩ | ⟨hx, _⟩
    · exact hg
    · exact h.fast x hx
  · intro x hx
    rcases mem_setF hx with ⟨rfl, g', hx⟩ | ⟨hx, _⟩
    · exact h.name (n, g') hx
    · exact h.name x hx

theorem Fine.create {s : St} (h : Fine s) (n : Nm) : Fine (create n s).2 := by
  refine h.asked fun hl _ => ?_
  have hz := first_at hl
  have hmay : may n = true := by
    have := hz (if may n then 0 else 1) (by simp)
    split at this
    · assumption
    · cases this
  have hnone : get n s.F = none := by
    have := hz (if (get n s.F).isSome then 9 else 0) (by simp)
    split at this
    · cases this
    · rename_i hs
      simpa using hs
  have hlen : s.F.length < 512 := by
    have := hz (if 512 ≤ s.F.length then 7 else 0) (by simp)
    split at this
    · cases this
    · omega
  have hl2 := length_del_le n s.F
  have ht2 := total_del_le n s.F
  have := h.bytes
  refine (Fine.less h).withF (F := put n ⟨[], 0⟩ s.F) ?_ ?_ ?_ ?_ (put_rise h.rise)
  · rw [put, length_ins]; omega
  · rw [put, total_ins]; simp only [List.length_nil]; omega
  · intro x hx
    rcases mem_put.1 hx with rfl | ⟨hx, _⟩
    · exact Nat.le_refl _
    · exact h.fast x hx
  · intro x hx
    rcases mem_put.1 hx with rfl | ⟨hx, _⟩
    · exact may_le hmay
    · exact h.name x hx

theorem Fine.append {s : St} (h : Fine s) (n : Nm) (b : List UInt8) : Fine (append n b s).2 := by
  refine h.asked fun hl _ => ?_
  have hz := first_at hl
  obtain ⟨f, hf, _⟩ := get_there (hz (there n s) (by simp))
  have hoff := off_of (hz (answers s) (by simp))
  have hq : total s.F + b.length ≤ 4194304 := by
    have := hz (if s.quota - used s < b.length then 7 else 0) (by simp)
    have h2 := h.q1
    have hu : used s = total s.F := by simp [used, hoff]
    rw [hu] at this
    split at this
    · cases this
    · omega
  have hfast := h.fast _ (get_mem hf)
  simp only at hfast
  have := Fine.setF (Fine.less h) (n := n) (f := f) (g := ⟨((get n (Dk.less s).F).getD ⟨[], 0⟩).b ++ b, ((get n (Dk.less s).F).getD ⟨[], 0⟩).fast⟩) hf
  refine this ?_ ?_
  · show total s.F + (((get n s.F).getD ⟨[], 0⟩).b ++ b).length ≤ _
    rw [hf, List.length_append]
    simp only [Option.getD_some]
    omega
  · show ((get n s.F).getD ⟨[], 0⟩).fast ≤ (((get n s.F).getD ⟨[], 0⟩).b ++ b).length
    rw [hf, List.length_append]
    simp only [Option.getD_some]
    omega

theorem Fine.sync {s : St} (h : Fine s) (n : Nm) : Fine (sync n s).2 := by
  refine h.asked fun hl _ => ?_
  obtain ⟨f, hf, _⟩ := get_there (first_at hl (there n s) (by simp))
  refine Fine.setF (Fine.less h) (n := n) (f := f) (g := ⟨((get n s.F).getD ⟨[], 0⟩).b, ((get n s.F).getD ⟨[], 0⟩).b.length⟩) hf ?_ (Nat.le_refl _)
  show total s.F + ((get n s.F).getD ⟨[], 0⟩).b.length ≤ _
  have := h.bytes
  rw [hf]
  simp only [Option.getD_some]
  omega

theorem Fine.truncate {s : St} (h : Fine s) (n : Nm) (k : Int) : Fine (truncate n k s).2 := by
  refine h.asked fun hl _ => ?_
  obtain ⟨f, hf, _⟩ := get_there (first_at hl (there n s) (by simp))
  have hfast := h.fast _ (get_mem hf)
  simp only at hfast
  refine Fine.setF (Fine.less h) (n := n) (f := f) hf ?_ ?_
  · show total s.F + (((get n s.F).getD ⟨[], 0⟩).b.take k.toNat).length ≤ _
    have := h.bytes
    rw [hf, List.length_take]
    simp only [Option.getD_some]
    omega
  · show min ((get n s.F).getD ⟨[], 0⟩).fast k.toNat ≤ (((get n s.F).getD ⟨[], 0⟩).b.take k.toNat).length
    rw [hf, List.length_take]
    simp only [Option.getD_some]
    omega

theorem Fine.remove {s : St} (h : Fine s) (n : Nm) : Fine (remove n s).2 := by
  refine h.asked fun hl _ => ?_
  have h1 := length_del_le n s.F
  have h2 := total_del_le n s.F
  have := h.bytes
  have := h.files
  exact (Fine.less h).withF (F := del n s.F) (by omega) (by omega) (fun x hx => h.fast x (mem_del.1 hx).1) (fun x hx => h.name x (mem_del.1 hx).1) (del_rise h.rise)

theorem get_put_ne {o n : Nm} {f g : Fi} {F : List (Nm × Fi)} (h : F.Pairwise fun x y => bytesBefore x.1 y.1 = true) (hne : o ≠ n) (hf : get o F = some f) : get o (put n g F) = some f := by
  have := get_of_mem (put_rise (n := n) (f := g) h) (mem_put.2 (.inr ⟨get_mem hf, hne⟩))
  exact this

theorem Fine.rename {s : St} (h : Fine s) (o n : Nm) : Fine (rename o n s).2 := by
  refine h.asked fun hl _ => ?_
  have hz := first_at hl
  obtain ⟨f, hf, _⟩ := get_there (hz (there o s) (by simp))
  have hmay : may n = true := by
    have := hz (if may n then 0 else 1) (by simp)
    split at this
    · assumption
    · cases this
  split
  · exact Fine.less h
  · rename_i hne
    show Fine { Dk.less s with F := del o (put n ((get o s.F).getD ⟨[], 0⟩) s.F) }
    rw [hf, Option.getD_some]
    have hp := put_rise (n := n) (f := f) h.rise
    obtain ⟨t1, t2⟩ := total_del hp (get_put_ne h.rise hne hf)
    have t3 : total (put n f s.F) = f.b.length + total (del n s.F) := by rw [put, total_ins]
    have t4 : (put n f s.F).length = (del n s.F).length + 1 := by rw [put, length_ins]
    have h1 := length_del_le n s.F
    have h2 := total_del_le n s.F
    have := h.bytes
    have := h.files
    refine (Fine.less h).withF (by omega) (by omega) ?_ ?_ (del_rise hp)
    · intro x hx
      rcases mem_put.1 (mem_del.1 hx).1 with rfl | ⟨hx, _⟩
      · exact h.fast (o, f) (get_mem hf)
      · exact h.fast x hx
    · intro x hx
      rcases mem_put.1 (mem_del.1 hx).1 with rfl | ⟨hx, _⟩
      · exact may_le hmay
      · exact h.name x hx

theorem Fine.quota {s : St} (h : Fine s) (k : Int) : Fine (quota k s).2 := by
  unfold Dk.quota
  split
  · exact h
  · exact ⟨h.files, h.bytes, by simp only; omega, by simp only; omega, h.f0, h.f1, h.fast, h.name, h.rise⟩
theorem Fine.fuse {s : St} (h : Fine s) (k : Int) (hk : k ≤ 9223372036854775807) : Fine (fuse k s).2 := by
  unfold Dk.fuse
  by_cases hl : first [answers s, if k < -1 then 1 else 0] = 0
  · rw [if_pos hl]
    have := first_at hl (if k < -1 then 1 else 0) (by simp)
    have : -1 ≤ k := by
      split at this
      · cases this
      · omega
    exact ⟨h.files, h.bytes, h.q0, h.q1, this, hk, h.fast, h.name, h.rise⟩
  · rw [if_neg hl]; exact h

theorem stays_le (picks : List Nat) (k : Nat) (f : Fi) : stays picks k f ≤ f.b.length - f.fast := by
  unfold stays
  split
  · have := Nat.mod_lt (picks.getD k 0) (show 0 < f.b.length - f.fast + 1 by omega)
    omega
  · omega
theorem torn1_length (torn : List UInt8) (k st : Nat) (b : List UInt8) : (torn1 torn k st b).length = b.length := by
  unfold torn1
  split <;> simp
theorem crash1_length (picks : List Nat) (torn : List UInt8) (k : Nat) {f : Fi} (h : f.fast ≤ f.b.length) : (crash1 picks torn k f).b.length = (crash1 picks torn k f).fast ∧ (crash1 picks torn k f).b.length ≤ f.b.length := by
  have := stays_le picks k f
  simp only [crash1, torn1_length, List.length_take]
  omega
theorem crashF_names (picks : List Nat) (torn : List UInt8) (k : Nat) (F : List (Nm × Fi)) : (crashF picks torn k F).map (·.1) = F.map (·.1) := by
  rw [← crashT_all, crashT_names]
theorem crashF_total (picks : List Nat) (torn : List UInt8) : ∀ (k : Nat) (F : List (Nm × Fi)), (∀ x ∈ F, x.2.fast ≤ x.2.b.length) → total (crashF picks torn k F) ≤ total F ∧ ∀ x ∈ crashF picks torn k F, x.2.fast ≤ x.2.b.length
  | _, [], _ => by simp [crashF]
  | k, x :: r, h => by
    have hx := h x (by simp)
    unfold crashF
    split
    · obtain ⟨h1, h2⟩ := crashF_total picks torn k r fun y hy => h y (by simp [hy])
      refine ⟨by simp only [total, List.map_cons, List.sum_cons] at h1 ⊢; omega, fun y hy => ?_⟩
      rcases List.mem_cons.1 hy with rfl | hy
      · exact hx
      · exact h2 y hy
    · obtain ⟨h1, h2⟩ := crashF_total picks torn (k + 1) r fun y hy => h y (by simp [hy])
      obtain ⟨e1, e2⟩ := crash1_length picks torn k hx
      refine ⟨by simp only [total, List.map_cons, List.sum_cons] at h1 ⊢; omega, fun y hy => ?_⟩
      rcases List.mem_cons.1 hy with rfl | hy
      · exact Nat.le_of_eq e1.symm
      · exact h2 y hy
theorem Fine.crash {s : St} (h : Fine s) (picks : List Nat) (torn : List UInt8) : Fine (crash picks torn s) := by
  have hn := crashF_names picks torn 0 s.F
  obtain ⟨h1, h2⟩ := crashF_total picks torn 0 s.F h.fast
  have := h.bytes
  have hl := congrArg List.length hn
  simp only [List.length_map] at hl
  have := h.files
  refine ⟨?_, ?_, h.q0, h.q1, by simp [Dk.crash], by simp [Dk.crash], h2, ?_, rise_names h.rise hn⟩
  · show (crashF picks torn 0 s.F).length ≤ 512
    omega
  · show total (crashF picks torn 0 s.F) ≤ 4194304
    omega
  · intro x hx
    have : x.1 ∈ s.F.map (·.1) := by
      rw [← hn]
      exact List.mem_map.2 ⟨x, hx, rfl⟩
    obtain ⟨y, hy, e⟩ := List.mem_map.1 this
    rw [← e]
    exact h.name y hy
end Dk
end Go.Proofs.YtjlchphbkmaacaaGreatDoor
