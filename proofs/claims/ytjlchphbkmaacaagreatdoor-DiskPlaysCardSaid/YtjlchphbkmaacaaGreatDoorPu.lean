/- Appends onto rows of the call's own, at whatever element type; a field of a block known whole. -/
import Derived.Test.YtjlchphbkmaacaaGreatDoorFb
import Derived.Deep.AppendLies
set_option linter.unusedVariables false
set_option linter.unusedSimpArgs false
namespace Go.Proofs.YtjlchphbkmaacaaGreatDoor
open Go.RowKit Go.MapKept Go.ChangeMaps Go.Maps
open Dk

/-- A type of slices, and its elements. -/
structure ElN (T E : TypeId) (z : Value) (by' k : Nat) : Prop where
  und : Tryz.prog.underlying T = some (.slice E)
  info : (Tryz.prog.info? E).map (fun i => (i.zero, i.size, i.bytes)) = some (some z, k, by')
  one : z.cells.size = k
  pos : 0 < k

/-- Elements behind a row of the call's own. -/
theorem appN {T E : TypeId} {z : Value} {b k : Nat} (h : ElN T E z b k) (w : World) (base : Nat) (v : Value) (n : Nat) (xs : List Value) (hown : w.ownsRow base E k v n xs) (p : Option Addr) (m c : Nat) (news : List Value)
    (hl : news.length = m * k) (hnews : ∀ a, p = some a → ∀ j u, news[j]? = some u → w.cell? (a.add j) = some u) (hnil : p = none → m = 0 ∧ c = 0) (h1 : ∀ u ∈ news, u.oneCell' = true)
    (h63 : n + m ≤ maxLen) (hb : (n + m) * b ≤ 140737488355328) (hbase : base ≤ w.heap.size) (ty : TypeId) :
    ∃ v' w', (Builtin.append_ #[T, T] ty #[v, .slice p m c]).run Tryz.prog w = .ok v' w' ∧ w'.ownsRow base E k v' (n + m) (xs ++ news) ∧ w.grownBy w' v.ownBlock ∧ (v'.ownBlock = v.ownBlock ∨ v'.ownBlock = some w.heap.size) := by
  obtain ⟨i0, hi, hz0, hz1, hz2⟩ := info_parts h.info
  cases p with
  | some a =>
    obtain ⟨v', w', hr, k1, k2, _, k4⟩ := run_append_own_at (P := Tryz.prog) w base T ty E i0 z k b h.und hi hz0 hz1 hz2 h.one h.pos v n xs hown a m c news hl (hnews a rfl) h1 h63 hb hbase
    exact ⟨v', w', hr, k1, k2, k4⟩
  | none =>
    obtain ⟨rfl, rfl⟩ := hnil rfl
    have hn : news = [] := List.eq_nil_of_length_eq_zero (by rw [hl, Nat.zero_mul])
    subst hn
    rw [List.append_nil]
    refine ⟨v, w, ?_, hown, ⟨rfl, rfl, rfl, Nat.le_refl _, fun _ _ _ => rfl⟩, .inl rfl⟩
    rcases hown.2 with ⟨rfl, _⟩ | ⟨g, cap, cur, rfl, _, _, hc, _⟩
    · simp [Builtin.append_, run_underlying h.und, sizeOf, typeInfo, hi, Builtin.lenOf, Builtin.firstCells, loadCells, loadCellsFrom]
    · have hrun := run_append_room_src (P := Tryz.prog) w T T ty E i0 h.und hi g 0 n cap (.slice none 0 0) 0 [] (Src.ofNil w h.und 0) (by omega) (fun j hj => by simp at hj) (fun j hj => by simp at hj)
      rw [hrun]
      rfl
theorem add_zero' (b j : Nat) : (⟨b, 0, none⟩ : Addr).add j = ⟨b, j, none⟩ := by
  unfold Addr.add
  split
  · rename_i h0; rw [h0]
  · simp
/-- One element more: it lies in a block of its own. -/
theorem pushN {T E : TypeId} {z : Value} {b k : Nat} (h : ElN T E z b k) (w : World) (base : Nat) (v : Value) (n : Nat) (xs : List Value) (hown : w.ownsRow base E k v n xs) (ys : Array Value) (hk : ys.size = k) (h1 : ∀ u ∈ ys.toList, u.oneCell' = true)
    (h63 : n + 1 ≤ maxLen) (hb : (n + 1) * b ≤ 140737488355328) (hbase : base ≤ w.heap.size) (ty : TypeId) :
    ∃ v' w', (Builtin.append_ #[T, T] ty #[v, .slice (some ⟨w.heap.size, 0, none⟩) 1 1]).run Tryz.prog (w.alloc (.cells ys E)) = .ok v' w' ∧ w'.ownsRow base E k v' (n + 1) (xs ++ ys.toList) ∧
      (w.alloc (.cells ys E)).grownBy w' v.ownBlock ∧ (v'.ownBlock = v.ownBlock ∨ v'.ownBlock = some (w.heap.size + 1)) := by
  obtain ⟨v', w', hr, k1, k2, k4⟩ := appN h (w.alloc (.cells ys E)) base v n xs (hown.alloc _) (some ⟨w.heap.size, 0, none⟩) 1 1 ys.toList (by rw [Array.length_toList, hk, Nat.one_mul])
    (fun a e j u hu => by
      cases e
      have hc : (w.alloc (.cells ys E)).heap[w.heap.size]? = some (.cells ys E (0, 0)) := allocs_at [.cells ys E] w 0 _ rfl
      rw [add_zero', cell_of_block hc, ← Array.getElem?_toList]
      exact hu)
    (fun e => by cases e) h1 h63 hb (by simp; omega) ty
  exact ⟨v', w', hr, k1, k2, by simpa using k4⟩
end Go.Proofs.YtjlchphbkmaacaaGreatDoor
