/- What a change of one file, a new file, a file's new name, a file less leave of the disk in memory. -/
import Derived.Test.YtjlchphbkmaacaaGreatDoorDw
set_option linter.unusedVariables false
set_option linter.unusedSimpArgs false
namespace Go.Proofs.YtjlchphbkmaacaaGreatDoor
open Go.RowKit Go.MapKept Go.ChangeMaps Go.Maps
namespace Dk

def updV (dv : Nm → Value) (n : Nm) (v : Value) : Nm → Value := fun m => if m == n then v else dv m
theorem updV_same (dv : Nm → Value) (n : Nm) (v : Value) : updV dv n v n = v := by simp [updV]
theorem updV_other (dv : Nm → Value) {n m : Nm} (v : Value) (h : m ≠ n) : updV dv n v m = dv m := by simp [updV, h]
theorem upd_same (blk : Nm → Nat) (n : Nm) (g : Nat) : upd blk n g n = g := by simp [upd]
theorem upd_other (blk : Nm → Nat) {n m : Nm} (g : Nat) (h : m ≠ n) : upd blk n g m = blk m := by simp [upd, h]

/-- What stays: the streams; blocks but some. -/
structure Stay (w w' : World) (but : Nat → Prop) : Prop where
  os : w'.os = w.os
  tape : w'.tape = w.tape
  output : w'.output = w.output
  size : w.heap.size ≤ w'.heap.size
  block : ∀ b, b < w.heap.size → ¬ but b → w'.heap[b]? = w.heap[b]?

section
variable {ρ : Nat → Option Role} {w w' : World} {bd : Nat} {s : St} {bm : Nat} {blk : Nm → Nat} {dv : Nm → Value}

theorem RepX.setFile (h : RepX ρ w bd s bm blk dv) {n : Nm} {f : Fi} (hf : get n s.F = some f) (v : Value) (f' : Fi)
    (hh : w'.heap[blk n]? = some (.cells #[v, .int .i64 f'.fast] 75 (0, 0))) (hv : w'.ownsRow 0 5 1 v f'.b.length (f'.b.map encU8))
    (hown : ∀ g, v.ownBlock = some g → (dv n).ownBlock = some g ∨ w.heap.size ≤ g) (hs : Stay w w' fun b => b = blk n ∨ (dv n).ownBlock = some b) :
    ∃ ρ', RepX ρ' w' bd { s with F := setF n f' s.F } bm blk (updV dv n v) ∧ Fr ρ ρ' w w' := by
  have hx := get_mem hf
  have key : ∀ b r, ρ b = some r → (if v.ownBlock = some b then some (Role.data n) else ρ b) = some r := by
    intro b r hr
    split
    · rename_i hb
      rcases hown b hb with h1 | h1
      · rw [h.rv _ hx b h1] at hr
        exact hr
      · have := h.lt b r hr
        omega
    · exact hr
  have oth : ∀ b r, ρ b = some r → r ≠ .file n → r ≠ .data n → w'.heap[b]? = w.heap[b]? := by
    intro b r hr h1 h2
    refine hs.block b (h.lt b r hr) ?_
    rintro (rfl | hb)
    · rw [h.rf _ hx] at hr
      exact h1 (Option.some.inj hr).symm
    · rw [h.rv _ hx b hb] at hr
      exact h2 (Option.some.inj hr).symm
  refine ⟨fun b => if v.ownBlock = some b then some (.data n) else ρ b, ?_, ?_⟩
  · refine ⟨?_, key _ _ h.rd, key _ _ h.rm, ?_, ?_, ?_, ?_, ?_, ?_⟩
    · intro b r hr
      by_cases hb : v.ownBlock = some b
      · exact (hv.lt b hb).2
      · simp only [hb, if_false] at hr
        exact Nat.lt_of_lt_of_le (h.lt b r hr) hs.size
    · rw [oth bd _ h.rd (by simp) (by simp)]
      exact h.hd
    · have := ownsMap_block h.hm (oth bm _ h.rm (by simp) (by simp))
      rw [show dat blk (setF n f' s.F) = dat blk s.F from dat_set blk n f' s.F]
      rw [show (setF n f' s.F).length = s.F.length from by simp [setF]]
      exact this
    · intro x hx'
      rcases mem_setF hx' with ⟨rfl, _⟩ | ⟨h1, h2⟩
      · exact key _ _ (h.rf (n, f) hx)
      · exact key _ _ (h.rf _ h1)
    · intro x hx'
      rcases mem_setF hx' with ⟨rfl, _⟩ | ⟨h1, h2⟩
      · simp only [updV_same]
        exact hh
      · rw [updV_other dv v h2, oth _ _ (h.rf _ h1) (by simp [h2]) (by simp)]
        exact h.hf _ h1
    · intro x hx'
      rcases mem_setF hx' with ⟨rfl, _⟩ | ⟨h1, h2⟩
      · simp only [updV_same]
        exact hv
      · rw [updV_other dv v h2]
        exact ownsRow_block (h.hv _ h1) fun g hg => oth g _ (h.rv _ h1 g hg) (by simp) (by simp [h2])
    · intro x hx' g hg
      rcases mem_setF hx' with ⟨rfl, _⟩ | ⟨h1, h2⟩
      · simp only [updV_same] at hg
        simp only [hg, if_true]
      · rw [updV_other dv v h2] at hg
        exact key _ _ (h.rv _ h1 g hg)
  · refine ⟨hs.os, hs.tape, hs.output, hs.size, fun b hb hr => ⟨hs.block b hb ?_, ?_⟩⟩
    · rintro (rfl | hb')
      · rw [h.rf _ hx] at hr; cases hr
      · rw [h.rv _ hx b hb'] at hr; cases hr
    · have : v.ownBlock ≠ some b := by
        intro e
        rcases hown b e with h1 | h1
        · rw [h.rv _ hx b h1] at hr; cases hr
        · omega
      simp only [this, if_false]
      exact hr

/-- A file, new or in another one's place, that is empty. -/
theorem RepX.create (h : RepX ρ w bd s bm blk dv) (n : Nm) (g : Nat) (hg : w.heap.size ≤ g)
    (hh : w'.heap[g]? = some (.cells #[.slice none 0 0, .int .i64 0] 75 (0, 0)))
    (hm : w'.ownsMap Tryz.prog 9 Rp bm (put n ⟨[], 0⟩ s.F).length (dat (upd blk n g) (put n ⟨[], 0⟩ s.F))) (hs : Stay w w' fun b => b = bm) :
    ∃ ρ', RepX ρ' w' bd { s with F := put n ⟨[], 0⟩ s.F } bm (upd blk n g) (updV dv n (.slice none 0 0)) ∧ Fr ρ ρ' w w' := by
  have key : ∀ b r, ρ b = some r → (if b = g then some (Role.file n) else ρ b) = some r := by
    intro b r hr
    rw [if_neg]
    · exact hr
    · have := h.lt b r hr
      omega
  have oth : ∀ b r, ρ b = some r → r ≠ .map → w'.heap[b]? = w.heap[b]? := by
    intro b r hr h1
    refine hs.block b (h.lt b r hr) ?_
    rintro rfl
    rw [h.rm] at hr
    exact h1 (Option.some.inj hr).symm
  refine ⟨fun b => if b = g then some (.file n) else ρ b, ?_, ?_⟩
  · refine ⟨?_, key _ _ h.rd, key _ _ h.rm, ?_, hm, ?_, ?_, ?_, ?_⟩
    · intro b r hr
      by_cases hb : b = g
      · rw [hb]
        exact (Array.getElem?_eq_some_iff.1 hh).1
      · simp only [hb, if_false] at hr
        exact Nat.lt_of_lt_of_le (h.lt b r hr) hs.size
    · rw [oth bd _ h.rd (by simp)]
      exact h.hd
    · intro x hx'
      rcases mem_put.1 hx' with rfl | ⟨h1, h2⟩
      · simp only [upd_same, if_true]
      · rw [upd_other blk g h2]
        exact key _ _ (h.rf _ h1)
    · intro x hx'
      rcases mem_put.1 hx' with rfl | ⟨h1, h2⟩
      · simp only [upd_same, updV_same]
        exact hh
      · rw [upd_other blk g h2, updV_other dv _ h2, oth _ _ (h.rf _ h1) (by simp)]
        exact h.hf _ h1
    · intro x hx'
      rcases mem_put.1 hx' with rfl | ⟨h1, h2⟩
      · simp only [updV_same]
        exact World.ownsRow_nil _ _ _ _
      · rw [updV_other dv _ h2]
        exact ownsRow_block (h.hv _ h1) fun k hk => oth k _ (h.rv _ h1 k hk) (by simp)
    · intro x hx' k hk
      rcases mem_put.1 hx' with rfl | ⟨h1, h2⟩
      · simp only [updV_same] at hk
        cases hk
      · rw [updV_other dv _ h2] at hk
        exact key _ _ (h.rv _ h1 k hk)
  · refine ⟨hs.os, hs.tape, hs.output, hs.size, fun b hb hr => ⟨hs.block b hb ?_, ?_⟩⟩
    · rintro rfl
      rw [h.rm] at hr; cases hr
    · show (if b = g then _ else _) = _
      rw [if_neg (by omega)]
      exact hr

/-- A file less. -/
theorem RepX.remove (h : RepX ρ w bd s bm blk dv) (n : Nm) (hm : w'.ownsMap Tryz.prog 9 Rp bm (del n s.F).length (dat blk (del n s.F))) (hs : Stay w w' fun b => b = bm) :
    RepX ρ w' bd { s with F := del n s.F } bm blk dv ∧ Fr ρ ρ w w' := by
  have oth : ∀ b r, ρ b = some r → r ≠ .map → w'.heap[b]? = w.heap[b]? := by
    intro b r hr h1
    refine hs.block b (h.lt b r hr) ?_
    rintro rfl
    rw [h.rm] at hr
    exact h1 (Option.some.inj hr).symm
  refine ⟨⟨fun b r hr => Nat.lt_of_lt_of_le (h.lt b r hr) hs.size, h.rd, h.rm, ?_, hm, fun x hx => h.rf x (mem_del.1 hx).1, fun x hx => ?_, fun x hx => ?_, fun x hx => h.rv x (mem_del.1 hx).1⟩, ?_⟩
  · rw [oth bd _ h.rd (by simp)]
    exact h.hd
  · rw [oth _ _ (h.rf x (mem_del.1 hx).1) (by simp)]
    exact h.hf x (mem_del.1 hx).1
  · exact ownsRow_block (h.hv x (mem_del.1 hx).1) fun k hk => oth k _ (h.rv x (mem_del.1 hx).1 k hk) (by simp)
  · refine ⟨hs.os, hs.tape, hs.output, hs.size, fun b hb hr => ⟨hs.block b hb ?_, hr⟩⟩
    rintro rfl
    rw [h.rm] at hr; cases hr

/-- A file under another name. -/
theorem RepX.rename (h : RepX ρ w bd s bm blk dv) {o n : Nm} {f : Fi} (hno : o ≠ n) (hf : get o s.F = some f)
    (hm : w'.ownsMap Tryz.prog 9 Rp bm (del o (put n f s.F)).length (dat (upd blk n (blk o)) (del o (put n f s.F)))) (hs : Stay w w' fun b => b = bm) :
    ∃ ρ', RepX ρ' w' bd { s with F := del o (put n f s.F) } bm (upd blk n (blk o)) (updV dv n (dv o)) ∧ Fr ρ ρ' w w' := by
  have hx := get_mem hf
  have hro := h.rf _ hx
  have hrd := h.rv _ hx
  simp only at hro hrd
  have key : ∀ b r, ρ b = some r → r ≠ .file o → r ≠ .data o → (if b = blk o then some (Role.file n) else if (dv o).ownBlock = some b then some (Role.data n) else ρ b) = some r := by
    intro b r hr h1 h2
    rw [if_neg, if_neg]
    · exact hr
    · intro e
      rw [hrd b e] at hr
      exact h2 (Option.some.inj hr).symm
    · rintro rfl
      rw [hro] at hr
      exact h1 (Option.some.inj hr).symm
  have oth : ∀ b r, ρ b = some r → r ≠ .map → w'.heap[b]? = w.heap[b]? := by
    intro b r hr h1
    refine hs.block b (h.lt b r hr) ?_
    rintro rfl
    rw [h.rm] at hr
    exact h1 (Option.some.inj hr).symm
  have hne : ∀ g, (dv o).ownBlock = some g → g ≠ blk o := by
    rintro g hg rfl
    rw [hrd _ hg] at hro
    cases hro
  refine ⟨fun b => if b = blk o then some (.file n) else if (dv o).ownBlock = some b then some (.data n) else ρ b, ?_, ?_⟩
  · refine ⟨?_, key _ _ h.rd (by simp) (by simp), key _ _ h.rm (by simp) (by simp), ?_, hm, ?_, ?_, ?_, ?_⟩
    · intro b r hr
      by_cases hb : b = blk o
      · rw [hb]
        exact Nat.lt_of_lt_of_le (h.lt _ _ hro) hs.size
      · simp only [hb, if_false] at hr
        by_cases hb2 : (dv o).ownBlock = some b
        · exact Nat.lt_of_lt_of_le (h.lt _ _ (hrd _ hb2)) hs.size
        · simp only [hb2, if_false] at hr
          exact Nat.lt_of_lt_of_le (h.lt b r hr) hs.size
    · rw [oth bd _ h.rd (by simp)]
      exact h.hd
    · intro x hx'
      obtain ⟨hx1, hx2⟩ := mem_del.1 hx'
      rcases mem_put.1 hx1 with rfl | ⟨h1, h2⟩
      · simp only [upd_same, if_true]
      · rw [upd_other blk _ h2]
        exact key _ _ (h.rf _ h1) (by simp [hx2]) (by simp)
    · intro x hx'
      obtain ⟨hx1, hx2⟩ := mem_del.1 hx'
      rcases mem_put.1 hx1 with rfl | ⟨h1, h2⟩
      · simp only [upd_same, updV_same]
        rw [oth _ _ hro (by simp)]
        exact h.hf _ hx
      · rw [upd_other blk _ h2, updV_other dv _ h2, oth _ _ (h.rf _ h1) (by simp)]
        exact h.hf _ h1
    · intro x hx'
      obtain ⟨hx1, hx2⟩ := mem_del.1 hx'
      rcases mem_put.1 hx1 with rfl | ⟨h1, h2⟩
      · simp only [updV_same]
        exact ownsRow_block (h.hv _ hx) fun k hk => oth k _ (hrd k hk) (by simp)
      · rw [updV_other dv _ h2]
        exact ownsRow_block (h.hv _ h1) fun k hk => oth k _ (h.rv _ h1 k hk) (by simp)
    · intro x hx' k hk
      obtain ⟨hx1, hx2⟩ := mem_del.1 hx'
      rcases mem_put.1 hx1 with rfl | ⟨h1, h2⟩
      · simp only [updV_same] at hk
        simp only [hne k hk, hk, if_false, if_true]
      · rw [updV_other dv _ h2] at hk
        exact key _ _ (h.rv _ h1 k hk) (by simp) (by simp [hx2])
  · refine ⟨hs.os, hs.tape, hs.output, hs.size, fun b hb hr => ⟨hs.block b hb ?_, ?_⟩⟩
    · rintro rfl
      rw [h.rm] at hr; cases hr
    · show (if b = blk o then _ else if (dv o).ownBlock = some b then _ else _) = _
      rw [if_neg, if_neg]
      · exact hr
      · intro e
        rw [hrd b e] at hr; cases hr
      · rintro rfl
        rw [hro] at hr; cases hr
end
end Dk
end Go.Proofs.YtjlchphbkmaacaaGreatDoor
