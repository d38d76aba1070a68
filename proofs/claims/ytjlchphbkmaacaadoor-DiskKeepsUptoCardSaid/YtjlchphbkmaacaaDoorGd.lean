/- What a crash keeps, as plain data. -/
import Derived.Test.YtjlchphbkmaacaaDoorFd
set_option linter.unusedVariables false
set_option linter.unusedSimpArgs false
namespace Go.Proofs.YtjlchphbkmaacaaDoor
namespace Dk

/-- Each file has a name that may be. -/
def Mays (s : St) : Prop := ∀ x ∈ s.F, may x.1 = true

theorem mays_less {s : St} (h : Mays s) : Mays (less s) := h
theorem mays_asked {l : List Int} {s : St} {k : St → St} (h : Mays s) (hk : first l = 0 → Mays (k (less s))) : Mays (asked l s k).2 := by
  unfold asked
  split
  · rename_i h0
    unfold burn
    split
    · exact h
    · exact hk h0
  · exact h
theorem mays_setF {s : St} (h : Mays s) (n : Nm) (f : Fi) : Mays { s with F := setF n f s.F } := fun x hx => by
  obtain ⟨y, hy, e⟩ := List.mem_map.1 (show x ∈ s.F.map _ from hx)
  have : x.1 = y.1 := by rw [← e]; split <;> rfl
  rw [this]
  exact h y hy
theorem mays_put {s : St} (h : Mays s) {n : Nm} (hn : may n = true) (f : Fi) : Mays { s with F := put n f s.F } := fun x hx => by
  rcases mem_put.1 (show x ∈ put n f s.F from hx) with rfl | ⟨h1, _⟩
  · exact hn
  · exact h x h1
theorem first_snd {a b : Int} {r : List Int} (h : first (a :: b :: r) = 0) : b = 0 := by
  unfold first at h
  split at h
  · unfold first at h
    split at h
    · assumption
    · contradiction
  · contradiction
theorem may_of_if {n : Nm} (h : (if may n then (0 : Int) else 1) = 0) : may n = true := by
  split at h
  · assumption
  · cases h
theorem Mays.create {s : St} (h : Mays s) (n : Nm) : Mays (create n s).2 :=
  mays_asked h fun h0 => mays_put (mays_less h) (may_of_if (first_snd h0)) _
theorem Mays.append {s : St} (h : Mays s) (n : Nm) (b : List UInt8) : Mays (append n b s).2 := mays_asked h fun _ => mays_setF (mays_less h) _ _
theorem Mays.sync {s : St} (h : Mays s) (n : Nm) : Mays (sync n s).2 := mays_asked h fun _ => mays_setF (mays_less h) _ _
theorem Mays.truncate {s : St} (h : Mays s) (n : Nm) (k : Int) : Mays (truncate n k s).2 := mays_asked h fun _ => mays_setF (mays_less h) _ _
theorem Mays.remove {s : St} (h : Mays s) (n : Nm) : Mays (remove n s).2 := mays_asked h fun _ x hx => h x (mem_del.1 (show x ∈ del n s.F from hx)).1
theorem Mays.rename {s : St} (h : Mays s) (o n : Nm) : Mays (rename o n s).2 := mays_asked h fun h0 => by
  split
  · exact mays_less h
  · intro x hx
    have h1 := (mem_del.1 (show x ∈ del o (put n ((get o (less s).F).getD ⟨[], 0⟩) s.F) from hx)).1
    exact mays_put (mays_less h) (may_of_if (first_snd h0)) _ x h1
theorem Mays.quota {s : St} (h : Mays s) (k : Int) : Mays (quota k s).2 := by
  unfold Dk.quota
  split <;> exact h
theorem Mays.fuse {s : St} (h : Mays s) (k : Int) : Mays (fuse k s).2 := by
  unfold Dk.fuse
  by_cases h0 : first [answers s, if k < -1 then 1 else 0] = 0
  · rw [if_pos h0]; exact h
  · rw [if_neg h0]; exact h
theorem Mays.crash {s : St} (h : Mays s) (picks : List Nat) (torn : List UInt8) : Mays (crash picks torn s) := fun x hx => by
  have h1 : x.1 ∈ (crashF picks torn 0 s.F).map (·.1) := List.mem_map.2 ⟨x, hx, rfl⟩
  rw [crashF_names] at h1
  obtain ⟨y, hy, e⟩ := List.mem_map.1 h1
  rw [← e]
  exact h y hy
theorem Mays.doF {s : St} (h : Mays s) (A : ActV) : Mays (doF A s).2 := by
  unfold Dk.doF
  repeat' split
  · exact h.create _
  · exact h.append _ _
  · exact h.sync _
  · exact h.rename _ _
  · exact h.truncate _ _
  · exact h.remove _
  · exact h.quota _
  · exact h.fuse _
  · exact h.crash _ _
  · exact h

/-- Without a fuse the power stays. -/
def Lit (s : St) : Prop := s.off = false ∧ s.fuse = -1
theorem lit_asked {l : List Int} {s : St} {k : St → St} (h : Lit s) (hk : ∀ s', Lit s' → Lit (k s')) : Lit (asked l s k).2 := by
  unfold asked
  split
  · unfold burn
    rw [if_neg (by rw [h.2]; decide)]
    refine hk _ ⟨h.1, ?_⟩
    show (if 0 < s.fuse then s.fuse - 1 else s.fuse) = -1
    rw [h.2]; rfl
  · exact h
theorem Lit.doF {s : St} (h : Lit s) (A : ActV) (h7 : A.what ≠ 7) : Lit (doF A s).2 := by
  unfold Dk.doF
  repeat' split
  · exact lit_asked h fun _ h' => h'
  · exact lit_asked h fun _ h' => h'
  · exact lit_asked h fun _ h' => h'
  · exact lit_asked h fun s' h' => by split <;> exact h'
  · exact lit_asked h fun _ h' => h'
  · exact lit_asked h fun _ h' => h'
  · unfold Dk.quota; split <;> exact h
  · exact ⟨rfl, rfl⟩
  · exact h

section
variable {s : St}
theorem names_lit (h : Lit s) : names s = s.F.map (·.1) := by unfold names; rw [h.1]; rfl
theorem readE_at (h : Lit s) (hm : Mays s) (hg : Fine s) {i : Nat} {x : Nm × Fi} (hx : s.F[i]? = some x) : readE x.1 s = 0 := by
  have hmem := List.mem_of_getElem? hx
  unfold readE answers there
  rw [h.1, hm x hmem, get_of_mem hg.rise hmem]
  rfl
theorem readB_at (h : Lit s) (hm : Mays s) (hg : Fine s) {i : Nat} {x : Nm × Fi} (hx : s.F[i]? = some x) : readB x.1 s = x.2.b := by
  unfold readB
  rw [if_pos (readE_at h hm hg hx), get_of_mem hg.rise (List.mem_of_getElem? hx)]
  rfl
theorem loose_at (h : Lit s) (hm : Mays s) (hg : Fine s) {i : Nat} {x : Nm × Fi} (hx : s.F[i]? = some x) : loose x.1 s = x.2.b.length - x.2.fast := by
  unfold loose
  rw [if_pos (readE_at h hm hg hx), get_of_mem hg.rise (List.mem_of_getElem? hx)]
  rfl
end

theorem crashF_at (picks : List Nat) (torn : List UInt8) : ∀ (F : List (Nm × Fi)) (k i : Nat) (x : Nm × Fi), F[i]? = some x →
    ∃ k', (crashF picks torn k F)[i]? = some (x.1, if x.2.b.length - x.2.fast = 0 then x.2 else crash1 picks torn k' x.2)
  | [], _, i, _, h => by simp at h
  | y :: r, k, 0, x, h => by
    obtain rfl : y = x := by simpa using h
    unfold crashF
    split
    · rename_i h0; exact ⟨k, by simp [h0]⟩
    · rename_i h0; exact ⟨k, by simp [h0]⟩
  | y :: r, k, i + 1, x, h => by
    have h : r[i]? = some x := by simpa using h
    unfold crashF
    split
    · obtain ⟨k', e⟩ := crashF_at picks torn r k i x h
      exact ⟨k', by simpa using e⟩
    · obtain ⟨k', e⟩ := crashF_at picks torn r (k + 1) i x h
      exact ⟨k', by simpa using e⟩

theorem torn1_take (torn : List UInt8) (k st : Nat) (b : List UInt8) {m : Nat} (h : 0 < st → m ≤ b.length - 1) : (torn1 torn k st b).take m = b.take m := by
  unfold torn1
  split
  · rename_i h0
    exact List.take_set_of_le (h h0.1)
  · rfl

/-- What a crash leaves of a file. -/
structure Kept (f g : Fi) : Prop where
  synced : g.b.length = g.fast
  low : f.fast ≤ g.b.length
  high : g.b.length ≤ f.b.length
  first : g.b.take f.fast = f.b.take f.fast
  last : f.fast < g.b.length → g.b.take (g.b.length - 1) = f.b.take (g.b.length - 1)
theorem kept_crash1 (picks : List Nat) (torn : List UInt8) (k : Nat) {f : Fi} (h : f.fast ≤ f.b.length) : Kept f (crash1 picks torn k f) := by
  have hs := stays_le picks k f
  have hl : (f.b.take (f.fast + stays picks k f)).length = f.fast + stays picks k f := by rw [List.length_take]; omega
  have hb : (crash1 picks torn k f).b.length = f.fast + stays picks k f := by
    show (torn1 _ _ _ _).length = _
    rw [torn1_length, hl]
  refine ⟨hb, by rw [hb]; omega, by rw [hb]; omega, ?_, fun hlt => ?_⟩
  · show (torn1 _ _ _ _).take _ = _
    rw [torn1_take _ _ _ _ (by rw [hl]; omega), List.take_take]
    congr 1
    omega
  · rw [hb] at hlt ⊢
    show (torn1 _ _ _ _).take _ = _
    rw [torn1_take _ _ _ _ (by rw [hl]; omega), List.take_take]
    congr 1
    omega
theorem crash_kept {s : St} (hg : Fine s) (picks : List Nat) (torn : List UInt8) {i : Nat} {x : Nm × Fi} (hx : s.F[i]? = some x) :
    ∃ g, (crash picks torn s).F[i]? = some (x.1, g) ∧ Kept x.2 g := by
  obtain ⟨k', e⟩ := crashF_at picks torn s.F 0 i x hx
  have hf := hg.fast x (List.mem_of_getElem? hx)
  refine ⟨_, e, ?_⟩
  split
  · exact ⟨by omega, hf, Nat.le_refl _, rfl, fun _ => rfl⟩
  · exact kept_crash1 _ _ _ hf
theorem crashF_still (picks : List Nat) (torn : List UInt8) : ∀ (F : List (Nm × Fi)) (k : Nat), (∀ x ∈ F, x.2.b.length = x.2.fast) → crashF picks torn k F = F
  | [], _, _ => rfl
  | y :: r, k, h => by
    unfold crashF
    rw [if_pos (by have := h y (by simp); omega), crashF_still picks torn r k fun x hx => h x (by simp [hx])]
theorem crash_crash {s : St} (hg : Fine s) (picks : List Nat) (torn : List UInt8) (p2 : List Nat) (t2 : List UInt8) : crash p2 t2 (crash picks torn s) = crash picks torn s := by
  have h : ∀ x ∈ (crash picks torn s).F, x.2.b.length = x.2.fast := fun x hx => by
    obtain ⟨i, hi⟩ := List.getElem?_of_mem hx
    have hlen : (crash picks torn s).F.length = s.F.length := by
      have := congrArg List.length (crashF_names picks torn 0 s.F)
      rw [List.length_map, List.length_map] at this
      exact this
    have hil : i < s.F.length := by
      have := (List.getElem?_eq_some_iff.1 hi).1
      omega
    obtain ⟨g, e, k⟩ := crash_kept hg picks torn (List.getElem?_eq_getElem hil)
    rw [hi] at e
    cases e
    exact k.synced
  show ({ crash picks torn s with off := false, fuse := -1, F := crashF p2 t2 0 (crash picks torn s).F } : St) = _
  rw [crashF_still p2 t2 _ 0 h]
  rfl
end Dk
end Go.Proofs.YtjlchphbkmaacaaDoor
