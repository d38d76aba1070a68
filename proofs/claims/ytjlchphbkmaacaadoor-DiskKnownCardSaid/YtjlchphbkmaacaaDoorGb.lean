/- DiskKnown's disk, as plain data: 512 files made one by one, and what it tells then. -/
import Derived.Test.YtjlchphbkmaacaaDoorFd
set_option linter.unusedVariables false
set_option linter.unusedSimpArgs false
namespace Go.Proofs.YtjlchphbkmaacaaDoor
namespace Dk

def kn (i : Nat) : Nm := [102, UInt8.ofNat (97 + i % 26), UInt8.ofNat (97 + i / 26)]
def ks : Nat → St
  | 0 => fresh 4194304
  | k + 1 => (create (kn k) (ks k)).2
def kdec (n : Nm) : Nat := ((n.getD 2 0).toNat - 97) * 26 + ((n.getD 1 0).toNat - 97)
theorem kn_dec : ∀ i, i < 512 → kdec (kn i) = i := by decide +kernel
theorem kn_may : ∀ i, i < 512 → may (kn i) = true := by decide +kernel

theorem pair {r : Int × St} {z : Int} (h : r.1 = z) : r = (z, r.2) := by rw [← h]
theorem get_none_of {n : Nm} {F : List (Nm × Fi)} (h : ∀ x ∈ F, x.1 ≠ n) : get n F = none := by
  unfold get
  rw [List.find?_eq_none.2 (fun x hx => by simpa using h x hx)]
  rfl
theorem del_none {n : Nm} {F : List (Nm × Fi)} (h : ∀ x ∈ F, x.1 ≠ n) : del n F = F :=
  List.filter_eq_self.2 fun x hx => by simpa using h x hx

structure Ks (k : Nat) (s : St) : Prop where
  fine : Fine s
  off : s.off = false
  fuse : s.fuse = -1
  quota : s.quota = 4194304
  len : s.F.length = k
  name : ∀ x ∈ s.F, ∃ j, j < k ∧ x.1 = kn j
  all : ∀ j, j < k → kn j ∈ s.F.map (·.1)
  bare : ∀ x ∈ s.F, x.2.b = []

theorem ks_step {k : Nat} (hk : k < 512) {s : St} (h : Ks k s) : (create (kn k) s).1 = 0 ∧ Ks (k + 1) (create (kn k) s).2 := by
  have hno : ∀ x ∈ s.F, x.1 ≠ kn k := fun x hx e => by
    obtain ⟨j, hj, e2⟩ := h.name x hx
    have h1 := kn_dec j (by omega)
    have h2 := kn_dec k hk
    rw [← e2, e, h2] at h1
    omega
  have hg := get_none_of hno
  have e : create (kn k) s = (0, { less s with F := put (kn k) ⟨[], 0⟩ s.F }) := by
    unfold create asked
    rw [if_pos]
    · unfold burn
      rw [if_neg (by rw [h.fuse]; decide)]
      rfl
    · unfold answers
      rw [h.off, kn_may k hk, hg, h.len]
      rw [if_neg (show ¬ 512 ≤ k by omega)]
      rfl
  have hf := h.fine.create (kn k)
  refine ⟨by rw [e], hf, ?_, ?_, ?_, ?_, ?_, ?_, ?_⟩
  · rw [e]; exact h.off
  · rw [e]
    show (if 0 < s.fuse then s.fuse - 1 else s.fuse) = -1
    rw [h.fuse]; rfl
  · rw [e]; exact h.quota
  · rw [e]
    show (put (kn k) ⟨[], 0⟩ s.F).length = k + 1
    rw [put, length_ins, del_none hno, h.len]
  · rw [e]
    intro x hx
    have hx : x ∈ put (kn k) ⟨[], 0⟩ s.F := hx
    rcases mem_put.1 hx with rfl | ⟨h1, _⟩
    · exact ⟨k, by omega, rfl⟩
    · obtain ⟨j, hj, e2⟩ := h.name x h1
      exact ⟨j, by omega, e2⟩
  · rw [e]
    intro j hj
    by_cases hjk : j = k
    · subst hjk
      exact List.mem_map.2 ⟨_, mem_put.2 (.inl rfl), rfl⟩
    · obtain ⟨x, hx, e2⟩ := List.mem_map.1 (h.all j (by omega))
      exact List.mem_map.2 ⟨x, mem_put.2 (.inr ⟨hx, hno x hx⟩), e2⟩
  · rw [e]
    intro x hx
    have hx : x ∈ put (kn k) ⟨[], 0⟩ s.F := hx
    rcases mem_put.1 hx with rfl | ⟨h1, _⟩
    · rfl
    · exact h.bare x h1
theorem ks_all : ∀ k, k ≤ 512 → Ks k (ks k)
  | 0, _ => ⟨fine0 (by decide) (by decide), rfl, rfl, rfl, rfl, (fun x hx => by cases hx), (fun j hj => absurd hj (Nat.not_lt_zero _)), fun x hx => by cases hx⟩
  | k + 1, h => (ks_step (by omega) (ks_all k (by omega))).2
theorem ks_ok {k : Nat} (hk : k < 512) : create (kn k) (ks k) = (0, ks (k + 1)) := pair (ks_step hk (ks_all k (by omega))).1

def kmore : Nm := [109, 111, 114, 101]
def kfaa : Nm := [102, 97, 97]
def kfba : Nm := [102, 98, 97]
theorem less_id {s : St} (h : s.fuse = -1) : less s = s := by
  unfold less
  rw [if_neg (by rw [h]; decide)]
theorem kn_more (j : Nat) : kn j ≠ kmore := fun e => by
  have := congrArg List.length e
  simp [kn, kmore] at this
theorem total_zero {F : List (Nm × Fi)} (h : ∀ x ∈ F, x.2.b = []) : total F = 0 := by
  induction F with
  | nil => rfl
  | cons y r ih =>
    have h1 := h y (by simp)
    have h2 := ih fun x hx => h x (by simp [hx])
    unfold total at h2 ⊢
    rw [List.map_cons, List.sum_cons, h2, h1]
    rfl
theorem get_put {n : Nm} {f : Fi} {F : List (Nm × Fi)} (h : F.Pairwise fun x y => bytesBefore x.1 y.1 = true) : get n (put n f F) = some f :=
  get_of_mem (x := (n, f)) (put_rise h) (mem_put.2 (.inl rfl))
theorem get_some_of {n : Nm} {F : List (Nm × Fi)} (h : F.Pairwise fun x y => bytesBefore x.1 y.1 = true) (hn : n ∈ F.map (·.1)) : ∃ f, get n F = some f := by
  obtain ⟨x, hx, rfl⟩ := List.mem_map.1 hn
  exact ⟨_, get_of_mem h hx⟩
theorem create_err {n : Nm} {s : St} {z : Int} (h : first [answers s, if may n then 0 else 1, if (get n s.F).isSome then 9 else 0, if 512 ≤ s.F.length then 7 else 0] = z) (hz : z ≠ 0) : create n s = (z, s) := by
  unfold create; rw [asked_err (by rw [h]; exact hz), h]

theorem k0_ex : ∃ s, Ks 512 s ∧ ks 512 = s := ⟨_, ks_all 512 (Nat.le_refl _), rfl⟩
noncomputable def k0 : St := Classical.choose k0_ex
theorem s0 : Ks 512 k0 := (Classical.choose_spec k0_ex).1
theorem k0_is : ks 512 = k0 := (Classical.choose_spec k0_ex).2
theorem q1 : create kmore k0 = (7, k0) := by
  refine create_err ?_ (by decide)
  have hg : get kmore k0.F = none := get_none_of fun x hx e => by
    obtain ⟨j, _, e2⟩ := s0.name x hx
    exact kn_more j (e2.symm.trans e)
  unfold answers
  rw [s0.off, hg, s0.len]
  rfl
theorem g0a : ∃ f, get kfaa k0.F = some f := get_some_of s0.fine.rise (s0.all 0 (by decide))
theorem g0b : ∃ f, get kfba k0.F = some f := get_some_of s0.fine.rise (s0.all 1 (by decide))
theorem b0 : ∀ x ∈ k0.F, x.2.b = [] := s0.bare
noncomputable def k2 : St := (rename kfaa kfba k0).2
theorem q2r : ∃ f, get kfaa k0.F = some f ∧ rename kfaa kfba k0 = (0, { k0 with F := del kfaa (put kfba f k0.F) }) := by
  obtain ⟨f, hf⟩ := g0a
  refine ⟨f, hf, ?_⟩
  unfold rename
  rw [asked_ok, less_id s0.fuse, if_neg (by decide), hf]
  · rfl
  · unfold answers there
    rw [s0.off, hf]
    rfl
  · rw [s0.fuse]; decide
theorem q2 : rename kfaa kfba k0 = (0, k2) := by
  obtain ⟨f, _, e⟩ := q2r
  exact pair (by rw [e])
theorem n0 : Fine k0 := s0.fine
theorem n2 : Fine k2 := n0.rename _ _
structure K2 (s : St) : Prop where
  fine : Fine s
  off : s.off = false
  fuse : s.fuse = -1
  len : s.F.length ≤ 511
  nofaa : ∀ x ∈ s.F, x.1 ≠ kfaa
  nomore : ∀ x ∈ s.F, x.1 ≠ kmore
  bare : ∀ x ∈ s.F, x.2.b = []
theorem s2 : K2 k2 := by
  obtain ⟨f, hf, e⟩ := q2r
  have e2 : k2 = { k0 with F := del kfaa (put kfba f k0.F) } := by unfold k2; rw [e]
  obtain ⟨fb, hfb⟩ := g0b
  have hl1 : (put kfba f k0.F).length = 512 := by
    rw [put, length_ins, (total_del n0.rise hfb).2, s0.len]
  have hga : get kfaa (put kfba f k0.F) = some f := get_put_ne n0.rise (by decide) hf
  have hl2 := (total_del (put_rise n0.rise) hga).2
  have hmem : ∀ x ∈ k2.F, x.1 ≠ kfaa ∧ (x = (kfba, f) ∨ x ∈ k0.F) := fun x hx => by
    rw [e2] at hx
    obtain ⟨h1, h2⟩ := mem_del.1 (show x ∈ del kfaa (put kfba f k0.F) from hx)
    refine ⟨h2, ?_⟩
    rcases mem_put.1 h1 with h | ⟨h, _⟩
    · exact .inl h
    · exact .inr h
  refine ⟨n2, by rw [e2]; exact s0.off, by rw [e2]; exact s0.fuse, ?_, fun x hx => (hmem x hx).1, fun x hx => ?_, fun x hx => ?_⟩
  · rw [e2]
    show (del kfaa (put kfba f k0.F)).length ≤ 511
    omega
  · rcases (hmem x hx).2 with rfl | h
    · show kfba ≠ kmore
      decide
    · obtain ⟨j, _, e3⟩ := s0.name x h
      rw [e3]
      exact kn_more j
  · rcases (hmem x hx).2 with rfl | h
    · exact b0 (kfaa, f) (get_mem hf)
    · exact b0 x h
noncomputable def k3 : St := { k2 with F := put kmore ⟨[], 0⟩ k2.F }
theorem q3 : create kmore k2 = (0, k3) := by
  have h := s2
  have hg : get kmore k2.F = none := get_none_of h.nomore
  unfold create
  rw [asked_ok, less_id h.fuse]
  · rfl
  · unfold answers
    rw [h.off, hg, if_neg (show ¬ 512 ≤ k2.F.length by have := h.len; omega)]
    rfl
  · rw [h.fuse]; decide
theorem n3 : Fine k3 := by have := n2.create kmore; rw [q3] at this; exact this
theorem g3 : get kmore k3.F = some ⟨[], 0⟩ := get_put n2.rise
theorem o3 : k3.off = false := s2.off
theorem f3 : k3.fuse = -1 := s2.fuse
theorem a3 : answers k3 = 0 := by unfold answers; rw [o3]; rfl
theorem t3 : there kmore k3 = 0 := by unfold there; rw [g3]; rfl
theorem b3 : ∀ x ∈ k3.F, x.2.b = [] := fun x hx => by
  rcases mem_put.1 (show x ∈ put kmore ⟨[], 0⟩ k2.F from hx) with rfl | ⟨h, _⟩
  · rfl
  · exact s2.bare x h
theorem q4 : create kmore k3 = (9, k3) := by
  refine create_err ?_ (by decide)
  rw [a3, g3]
  rfl
theorem q5 : truncate kmore 1 k3 = (1, k3) := by
  unfold truncate
  have h : first [answers k3, if (1 : Int) < 0 then 1 else 0, there kmore k3, if (((get kmore k3.F).getD ⟨[], 0⟩).b.length : Int) < 1 then 1 else 0] = 1 := by rw [a3, t3, g3]; rfl
  rw [asked_err (by rw [h]; decide), h]
theorem q6 : truncate kmore (-1) k3 = (1, k3) := by
  unfold truncate
  have h : first [answers k3, if (-1 : Int) < 0 then 1 else 0, there kmore k3, if (((get kmore k3.F).getD ⟨[], 0⟩).b.length : Int) < -1 then 1 else 0] = 1 := by rw [a3]; rfl
  rw [asked_err (by rw [h]; decide), h]
theorem q7 : remove kfaa k3 = (6, k3) := by
  have hg : get kfaa k3.F = none := get_none_of fun x hx => by
    rcases mem_put.1 (show x ∈ put kmore ⟨[], 0⟩ k2.F from hx) with rfl | ⟨h, _⟩
    · show kmore ≠ kfaa
      decide
    · exact s2.nofaa x h
  unfold remove
  have h : first [answers k3, there kfaa k3] = 6 := by unfold there; rw [a3, hg]; rfl
  rw [asked_err (by rw [h]; decide), h]
noncomputable def k8 : St := { k3 with quota := 0 }
theorem q8 : quota 0 k3 = (0, k8) := rfl
theorem n8 : Fine k8 := n3.quota 0
theorem u8 : used k8 = 0 := by
  unfold used
  rw [show k8.off = false from o3]
  exact total_zero b3
noncomputable def k9 : St := { k8 with F := setF kmore ⟨[], 0⟩ k8.F }
theorem q9 : append kmore [] k8 = (0, k9) := by
  have hg : get kmore k8.F = some ⟨[], 0⟩ := g3
  unfold append
  rw [asked_ok, less_id (show k8.fuse = -1 from f3), hg]
  · rfl
  · rw [show answers k8 = 0 from a3, show there kmore k8 = 0 from t3, u8]
    rfl
  · rw [show k8.fuse = -1 from f3]; decide
theorem n9 : Fine k9 := by have := n8.append kmore []; rw [q9] at this; exact this
theorem a9 : answers k9 = 0 := a3
theorem m9 : kmore ∈ k9.F.map (·.1) := by
  show kmore ∈ (setF kmore ⟨[], 0⟩ k3.F).map (·.1)
  rw [setF_names]
  exact List.mem_map.2 ⟨_, get_mem g3, rfl⟩
theorem t9 : there kmore k9 = 0 := by
  obtain ⟨f, hf⟩ := get_some_of n9.rise m9
  unfold there
  rw [hf]
  rfl
theorem u9 : used k9 = 0 := by
  unfold used
  rw [show k9.off = false from o3]
  refine total_zero fun x hx => ?_
  rcases mem_setF (show x ∈ setF kmore ⟨[], 0⟩ k3.F from hx) with ⟨rfl, _⟩ | ⟨h, _⟩
  · rfl
  · exact b3 x h
theorem q10 : append kmore [1] k9 = (7, k9) := by
  unfold append
  have h : first [answers k9, there kmore k9, if k9.quota - used k9 < ([1] : List UInt8).length then 7 else 0] = 7 := by
    rw [a9, t9, u9]
    rfl
  rw [asked_err (by rw [h]; decide), h]
theorem q11 : quota (-1) k9 = (1, k9) := rfl
theorem q12 : fuse (-2) k9 = (1, k9) := by unfold fuse; rw [a9]; rfl
noncomputable def k13 : St := { k9 with fuse := 0 }
theorem q13 : fuse 0 k9 = (0, k13) := by unfold fuse; rw [a9]; rfl
theorem n13 : Fine k13 := by have := n9.fuse 0 (by decide); rw [q13] at this; exact this
noncomputable def k14 : St := burnt k13
theorem q14 : sync kmore k13 = (8, k14) := by
  unfold sync
  rw [asked_off]
  · rfl
  · rw [show answers k13 = 0 from a9, show there kmore k13 = 0 from t9]
    rfl
  · rfl
theorem n14 : Fine k14 := by have := n13.sync kmore; rw [q14] at this; exact this
theorem q15 : fuse 1 k14 = (8, k14) := rfl
theorem q15r : readE kmore k14 = 8 := rfl
noncomputable def k16 : St := { k14 with quota := 5 }
theorem q16 : quota 5 k14 = (0, k16) := rfl
end Dk
end Go.Proofs.YtjlchphbkmaacaaDoor
