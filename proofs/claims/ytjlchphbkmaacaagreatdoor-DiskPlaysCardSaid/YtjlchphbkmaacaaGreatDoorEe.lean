/- Bytes that are appended, whatever they are. -/
import Derived.Test.YtjlchphbkmaacaaGreatDoorEd
import Derived.Maps.AppendAt
import Derived.Deep.AppendSrc
set_option linter.unusedVariables false
set_option linter.unusedSimpArgs false
namespace Go.Proofs.YtjlchphbkmaacaaGreatDoor
open Go.RowKit Go.MapKept Go.ChangeMaps Go.Maps
attribute [local go_sem ↓] Go.wp_at_zero Go.wp_at_succ
open Dk

/-- A slice of bytes, wherever it lies; nil has none. -/
structure Dk.BytesAt (w : World) (p : Option Addr) (m : Nat) (bs : List UInt8) : Prop where
  len : bs.length = m
  nil : p = none → m = 0
  cells : ∀ a, p = some a → ∀ j u, (bs.map encU8)[j]? = some u → w.cell? (a.add j) = some u

theorem Dk.BytesAt.of_own {w : World} {base : Nat} {p : Option Addr} {m c : Nat} {bs : List UInt8} (h : w.ownsRow base 5 1 (.slice p m c) bs.length (bs.map encU8)) : BytesAt w p m bs := by
  obtain ⟨h1, ⟨h2, h3⟩ | ⟨g, cap, cur, hv, _, hg, hc, _, hs, ht⟩⟩ := h
  · simp only [Value.slice.injEq] at h2
    obtain ⟨rfl, rfl, rfl⟩ := h2
    exact ⟨h3, fun _ => rfl, fun a e => by cases e⟩
  · simp only [Value.slice.injEq] at hv
    obtain ⟨rfl, rfl, rfl⟩ := hv
    refine ⟨rfl, (fun e => by cases e), fun a e j u hu => ?_⟩
    cases e
    have e1 : (⟨g, 0, none⟩ : Addr).add j = ⟨g, j, none⟩ := by
      unfold Addr.add
      split
      · rename_i h0; rw [h0]
      · simp
    rw [e1, cell_of_block hg, ← Array.getElem?_toList]
    rw [← ht] at hu
    rw [List.getElem?_take] at hu
    split at hu
    · exact hu
    · cases hu

theorem add_block (a : Addr) (j : Nat) : (a.add j).block = a.block := by
  unfold Addr.add
  split <;> rfl

theorem Dk.BytesAt.keep {w w' : World} {p : Option Addr} {m : Nat} {bs : List UInt8} (h : BytesAt w p m bs) (hk : ∀ a, p = some a → a.block < w.heap.size → w'.heap[a.block]? = w.heap[a.block]?) : BytesAt w' p m bs :=
  ⟨h.len, h.nil, fun a e j u hu => by
    have := h.cells a e j u hu
    rw [World.cell?_of_block (w := w) (a := a.add j) (by rw [add_block]; exact hk a e (by have := cell_lt this; rwa [add_block] at this))]
    exact this⟩

theorem encU8_one {bs : List UInt8} : ∀ u ∈ bs.map encU8, u.oneCell' = true := by
  intro u hu
  obtain ⟨x, _, rfl⟩ := List.mem_map.1 hu
  rfl

theorem app_bytes (w : World) (v : Value) (bs ns : List UInt8) (hown : w.ownsRow 0 5 1 v bs.length (bs.map encU8)) (p : Option Addr) (m c : Nat) (hp : BytesAt w p m ns) (hpc : p = none → c = 0) (hbig : bs.length + m ≤ 140737488355328) (ty : TypeId) :
    ∃ v' w', (Builtin.append_ #[31, 31] ty #[v, .slice p m c]).run Tryz.prog w = .ok v' w' ∧ w'.ownsRow 0 5 1 v' (bs ++ ns).length ((bs ++ ns).map encU8) ∧ w.grownBy w' v.ownBlock ∧ (v'.ownBlock = v.ownBlock ∨ v'.ownBlock = some w.heap.size) := by
  obtain ⟨i0, hi, hz0, hz1, hz2⟩ := info_parts (show (Tryz.prog.info? 5).map (fun i => (i.zero, i.size, i.bytes)) = some (some (.int .u8 0), 1, 1) by kernel_rfl)
  have hlen : (bs ++ ns).length = bs.length + m := by rw [List.length_append, hp.len]
  cases p with
  | some a =>
    obtain ⟨v', w', hr, h1, h2, _, h4⟩ := run_append_own_at (P := Tryz.prog) w 0 31 ty 5 i0 (.int .u8 0) 1 1 Tryz.underlying31 hi hz0 hz1 hz2 rfl (by decide) v bs.length (bs.map encU8) hown a m c (ns.map encU8) (by rw [List.length_map, hp.len]; omega) (fun j u hu => hp.cells a rfl j u hu) encU8_one (by unfold maxLen; omega) (by omega) (Nat.zero_le _)
    rw [← List.map_append, ← hlen] at h1
    exact ⟨v', w', hr, h1, h2, h4⟩
  | none =>
    obtain rfl := hp.nil rfl
    obtain rfl := hpc rfl
    have hn : ns = [] := List.eq_nil_of_length_eq_zero hp.len
    subst hn
    rw [List.append_nil]
    refine ⟨v, w, ?_, hown, ⟨rfl, rfl, rfl, Nat.le_refl _, fun _ _ _ => rfl⟩, .inl rfl⟩
    rcases hown.2 with ⟨rfl, _⟩ | ⟨g, cap, cur, rfl, _, _, hc, _⟩
    · simp [Builtin.append_, run_underlying Tryz.underlying31, sizeOf, typeInfo, hi, Builtin.lenOf, Builtin.firstCells, loadCells, loadCellsFrom]
    · have hrun := run_append_room_src (P := Tryz.prog) w 31 31 ty 5 i0 Tryz.underlying31 hi g 0 bs.length cap (.slice none 0 0) 0 [] (Src.ofNil w Tryz.underlying31 0) (by omega) (fun j hj => by simp at hj) (fun j hj => by simp at hj)
      rw [hrun]
      rfl

/-- A step of a region that draws its order: an append whose run is known. -/
theorem step_append_run {P : Program} {ops : Array Oper} {o : Oper} {a : Act} {w w' : World} {K : Act → World → Prop} {Q : Exit → Act → World → Prop} {E : Prop} (hgd : o.guard = none) (s x : Operand) (t : TypeId)
    (ho : o.op = .call { callee := .builtin .append, args := #[s, x], argTypes := #[t, t] }) (v xv v' : Value) (hs : a.eval s = v) (hx : a.eval x = xv) (hr : (Builtin.append_ #[t, t] o.type #[v, xv]).run P w = .ok v' w')
    (h : K (a.put o.dst v') w') : if Region.wanted o (yielded ops a.tmps) = true then Oper.wp P o a w K Q else E := by
  have hw : Region.wanted o (yielded ops a.tmps) = true := by simp [Region.wanted, hgd]
  rw [if_pos hw]
  unfold Oper.wp execOp
  simp only [ho, resolve, invoke, builtin, Sem.run_bind, Sem.run_pure, Result.andThen_ok, List.map_toArray, List.map_cons, List.map_nil, hs, hx, hr]
  exact h

theorem first_fourth {a b c d : Int} {r : List Int} (h : Dk.first (a :: b :: c :: d :: r) = 0) : d = 0 := by
  unfold Dk.first Dk.first Dk.first Dk.first at h
  split at h
  · split at h
    · split at h
      · split at h
        · assumption
        · assumption
      · contradiction
    · contradiction
  · contradiction
theorem first_third {a b c : Int} {r : List Int} (h : Dk.first (a :: b :: c :: r) = 0) : c = 0 := by
  unfold Dk.first Dk.first Dk.first at h
  split at h
  · split at h
    · split at h
      · assumption
      · assumption
    · contradiction
  · contradiction

theorem cell_set {w : World} {a b : Addr} {v u : Value} (hc : w.cell? b = some u) (hne : a.block ≠ b.block) : (w.setCell a v).cell? b = some u :=
  (World.cell?_of_block (w := w) (Below.heap_setCell w a v b.block (Ne.symm hne))).trans hc

theorem ownsRow_base0 {w : World} {base : Nat} {e : TypeId} {size : Nat} {v : Value} {n : Nat} {xs : List Value} (h : w.ownsRow base e size v n xs) : w.ownsRow 0 e size v n xs := by
  obtain ⟨h1, h2⟩ := h
  refine ⟨h1, h2.imp id ?_⟩
  rintro ⟨g, cap, cur, e1, _, r⟩
  exact ⟨g, cap, cur, e1, Nat.zero_le _, r⟩

/-- A file's two cells are written, its bytes in new memory. -/
theorem Dk.RepX.two {ρ : Nat → Option Role} {w2 w3 : World} {bd : Nat} {s : St} {bm : Nat} {blk : Nm → Nat} {dv : Nm → Value} (hr : RepX ρ w2 bd s bm blk dv) {n : Nm} {f : Fi} (hf : get n s.F = some f) (hb : Below w2.heap.size w2 w3) (v : Value) (f' : Fi)
    (hv : w3.ownsRow w2.heap.size 5 1 v f'.b.length (f'.b.map encU8)) :
    ∃ ρ', RepX ρ' ((w3.setCell ⟨blk n, 0, none⟩ v).setCell ⟨blk n, 1, none⟩ (.int .i64 f'.fast)) bd { s with F := setF n f' s.F } bm blk (updV dv n v) ∧ Fr ρ ρ' w2 ((w3.setCell ⟨blk n, 0, none⟩ v).setCell ⟨blk n, 1, none⟩ (.int .i64 f'.fast)) := by
  have hx := get_mem hf
  have hblk := (hr.below hb).hf _ hx
  simp only at hblk
  have hlt := (Array.getElem?_eq_some_iff.1 hblk).1
  have hlt2 := hr.lt _ _ (hr.rf _ hx)
  simp only at hlt2
  have e1 := setCell_eq w3 (blk n) 0 v _ _ _ hblk
  have hblk1 : (setBlock w3 (blk n) (.cells (#[dv n, Value.int .i64 f.fast].setIfInBounds 0 v) 75 (0, 0))).heap[blk n]? = some (.cells #[v, .int .i64 f.fast] 75 (0, 0)) := by
    rw [heap_setBlock hlt]; rfl
  have e2 := setCell_eq _ (blk n) 1 (.int .i64 f'.fast) _ _ _ hblk1
  rw [e1, e2, setBlock_twice]
  refine hr.setFile hf v f' ?_ ?_ ?_ ?_
  · rw [heap_setBlock hlt]; rfl
  · refine ownsRow_block (ownsRow_base0 hv) fun k hk => Dk.setBlock_other _ _ _ ?_
    rintro rfl
    have := (hv.lt _ hk).1
    omega
  · exact fun k hk => .inr (hv.lt k hk).1
  · refine ⟨hb.os, hb.tape, hb.output, by rw [Dk.setBlock_size]; exact hb.size, fun b hlt' hne => ?_⟩
    rw [Dk.setBlock_other _ _ _ (fun e => hne (.inl e))]
    exact hb.block b hlt'
end Go.Proofs.YtjlchphbkmaacaaGreatDoor
