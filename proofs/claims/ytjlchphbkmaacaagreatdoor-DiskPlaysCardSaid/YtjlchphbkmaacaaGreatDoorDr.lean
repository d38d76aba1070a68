/- The disk in memory: which blocks it has, and what each of them holds; and what stays beside it. -/
import Derived.Test.YtjlchphbkmaacaaGreatDoorDa
import Derived.Test.YtjlchphbkmaacaaGreatDoorDp
set_option linter.unusedVariables false
set_option linter.unusedSimpArgs false
namespace Go.Proofs.YtjlchphbkmaacaaGreatDoor
open Go.RowKit
namespace Dk

/-- What a block of a disk's is there for. -/
inductive Role where
  | disk | map | file (n : Nm) | data (n : Nm)

def encU8 (c : UInt8) : Value := .int .u8 c.toNat

/-- How an element of the map of files reads: by its block's number. -/
def Rp : Value → Option (DataW Nat × List MemPlace)
  | .pointer none => some (.nil, [])
  | .pointer (some ⟨b, 0, none⟩) => some (.held b, [])
  | _ => none
theorem Rp_held {v : Value} {g : Nat} {ps : List MemPlace} (h : Rp v = some (.held g, ps)) : v = .pointer (some ⟨g, 0, none⟩) := by
  unfold Rp at h
  split at h <;> simp_all
theorem Rp_nil {v : Value} {ps : List MemPlace} (h : Rp v = some (.nil, ps)) : v = .pointer none := by
  unfold Rp at h
  split at h <;> simp_all

structure RepX (ρ : Nat → Option Role) (w : World) (bd : Nat) (s : St) (bm : Nat) (blk : Nm → Nat) (dv : Nm → Value) : Prop where
  lt : ∀ b r, ρ b = some r → b < w.heap.size
  rd : ρ bd = some .disk
  rm : ρ bm = some .map
  hd : w.heap[bd]? = some (.cells #[.map (some bm), .int .i64 s.quota, .int .i64 s.fuse, .bool s.off] 58 (0, 0))
  hm : w.ownsMap Tryz.prog 9 Rp bm s.F.length (dat blk s.F)
  rf : ∀ x ∈ s.F, ρ (blk x.1) = some (.file x.1)
  hf : ∀ x ∈ s.F, w.heap[blk x.1]? = some (.cells #[dv x.1, .int .i64 x.2.fast] 75 (0, 0))
  hv : ∀ x ∈ s.F, w.ownsRow 0 5 1 (dv x.1) x.2.b.length (x.2.b.map encU8)
  rv : ∀ x ∈ s.F, ∀ g, (dv x.1).ownBlock = some g → ρ g = some (.data x.1)

def Rep (ρ : Nat → Option Role) (w : World) (bd : Nat) (s : St) : Prop := ∃ bm blk dv, RepX ρ w bd s bm blk dv

/-- What is beside the disk stays; the disk takes new blocks alone. -/
structure Fr (ρ ρ' : Nat → Option Role) (w w' : World) : Prop where
  os : w'.os = w.os
  tape : w'.tape = w.tape
  output : w'.output = w.output
  size : w.heap.size ≤ w'.heap.size
  block : ∀ b, b < w.heap.size → ρ b = none → w'.heap[b]? = w.heap[b]? ∧ ρ' b = none

theorem Fr.refl (ρ : Nat → Option Role) (w : World) : Fr ρ ρ w w := ⟨rfl, rfl, rfl, Nat.le_refl _, fun _ _ h => ⟨rfl, h⟩⟩
theorem Fr.trans {ρ ρ' ρ'' : Nat → Option Role} {a b c : World} (h : Fr ρ ρ' a b) (k : Fr ρ' ρ'' b c) : Fr ρ ρ'' a c :=
  ⟨k.os.trans h.os, k.tape.trans h.tape, k.output.trans h.output, Nat.le_trans h.size k.size, fun i hi hr => by
    obtain ⟨h1, h2⟩ := h.block i hi hr
    obtain ⟨h3, h4⟩ := k.block i (Nat.lt_of_lt_of_le hi h.size) h2
    exact ⟨h3.trans h1, h4⟩⟩
theorem Fr.of_below {ρ : Nat → Option Role} {w w' : World} (h : Below w.heap.size w w') : Fr ρ ρ w w' :=
  ⟨h.os, h.tape, h.output, h.size, fun b hb hr => ⟨h.block b hb, hr⟩⟩
/-- Ahead of the disk's blocks nothing turns. -/
theorem Fr.below {ρ ρ' : Nat → Option Role} {w w' : World} {B : Nat} (h : Fr ρ ρ' w w') (hB : B ≤ w.heap.size) (hr : ∀ b, b < B → ρ b = none) : Below B w w' :=
  ⟨h.os, h.tape, h.output, h.size, fun k hk => (h.block k (Nat.lt_of_lt_of_le hk hB) (hr k hk)).1⟩
theorem Fr.none {ρ ρ' : Nat → Option Role} {w w' : World} {B : Nat} (h : Fr ρ ρ' w w') (hB : B ≤ w.heap.size) (hr : ∀ b, b < B → ρ b = none) : ∀ b, b < B → ρ' b = none :=
  fun k hk => (h.block k (Nat.lt_of_lt_of_le hk hB) (hr k hk)).2

theorem ownsRow_block {w w' : World} {base : Nat} {e : TypeId} {size : Nat} {v : Value} {n : Nat} {xs : List Value} (h : w.ownsRow base e size v n xs) (hb : ∀ g, v.ownBlock = some g → w'.heap[g]? = w.heap[g]?) : w'.ownsRow base e size v n xs := by
  obtain ⟨h1, h2⟩ := h
  refine ⟨h1, ?_⟩
  rcases h2 with h2 | ⟨g, cap, cur, hv, hg, hh, r⟩
  · exact Or.inl h2
  · exact Or.inr ⟨g, cap, cur, hv, hg, (hb g (by rw [hv]; rfl)).trans hh, r⟩
theorem ownsMap_block {H : Type} {P : Program} {k : TypeId} {R : Value → Option (DataW H × List MemPlace)} {w w' : World} {b n : Nat} {D : DataW H} (h : w.ownsMap P k R b n D) (hb : w'.heap[b]? = w.heap[b]?) : w'.ownsMap P k R b n D := by
  obtain ⟨es, clock, h1, r⟩ := h
  exact ⟨es, clock, hb.trans h1, r⟩
theorem ownsMap_tight {H : Type} {P : Program} {k : TypeId} {R : Value → Option (DataW H × List MemPlace)} {w : World} {b n : Nat} {D : DataW H} (h : w.ownsMap P k R b n D) : w.ownsMap P k R b (Maps.size D) D := by
  obtain ⟨es, clock, h1, F, hs, rfl⟩ := h
  exact ⟨es, clock, h1, F, by simp [Maps.size, length_sorted], rfl⟩

section
variable {ρ : Nat → Option Role} {w w' : World} {bd : Nat} {s : St} {bm : Nat} {blk : Nm → Nat} {dv : Nm → Value}

/-- The disk stays as it is while new blocks are made. -/
theorem RepX.below (h : RepX ρ w bd s bm blk dv) (hb : Below w.heap.size w w') : RepX ρ w' bd s bm blk dv where
  lt := fun b r hr => Nat.lt_of_lt_of_le (h.lt b r hr) hb.size
  rd := h.rd
  rm := h.rm
  hd := (hb.block bd (h.lt _ _ h.rd)).trans h.hd
  hm := ownsMap_block h.hm (hb.block bm (h.lt _ _ h.rm))
  rf := h.rf
  hf := fun x hx => (hb.block _ (h.lt _ _ (h.rf x hx))).trans (h.hf x hx)
  hv := fun x hx => ownsRow_block (h.hv x hx) fun g hg => hb.block _ (h.lt _ _ (h.rv x hx g hg))
  rv := h.rv
theorem Rep.below (h : Rep ρ w bd s) (hb : Below w.heap.size w w') : Rep ρ w' bd s := by
  obtain ⟨bm, blk, dv, h⟩ := h
  exact ⟨bm, blk, dv, h.below hb⟩

theorem cell_of_block {w : World} {b i : Nat} {c : Array Value} {t : TypeId} {fr : Nat × Nat} (h : w.heap[b]? = some (.cells c t fr)) : w.cell? ⟨b, i, none⟩ = c[i]? := by
  simp [World.cell?, h]
theorem frozen_of_block {w : World} {b i : Nat} {c : Array Value} {t : TypeId} (h : w.heap[b]? = some (.cells c t (0, 0))) : w.frozen? ⟨b, i, none⟩ = false := by
  simp [World.frozen?, h]

theorem string_law : Maps.Keyed Tryz.prog 9 := Maps.string_keyed Tryz.underlying9

theorem map_look {w : World} {bm k : Nat} {blk : Nm → Nat} {F : List (Nm × Fi)} (h : w.ownsMap Tryz.prog 9 Rp bm k (dat blk F)) (n : ByteArray) (hn : n.size ≤ maxLen) :
    (Instr.lookup 56 (.map (some bm)) (.string n) false).run Tryz.prog w = .ok (if (get n.data.toList F).isSome then .pointer (some ⟨blk n.data.toList, 0, none⟩) else .pointer none) w := by
  have hz : (zeroValue 76).run Tryz.prog w = .ok (.pointer none) w := by kernel_rfl
  obtain ⟨v, ps, hrun, hv⟩ := h.lookup (t := 56) (e := 76) string_law Tryz.underlying56 hz (zd := .nil) (zp := []) rfl (key := .string n) (kl := .string n.data.toList) (WideMaps.keyOf_string_mk Tryz.underlying9 hn)
  rw [hrun]
  rw [dat_at] at hv
  split at hv
  · rename_i hs
    rw [if_pos hs, Rp_held hv]
  · rename_i hs
    rw [if_neg hs, Rp_nil hv]

/-- What a look-up of a name gives. -/
theorem RepX.look (h : RepX ρ w bd s bm blk dv) (n : ByteArray) (hn : n.size ≤ maxLen) :
    (Instr.lookup 56 (.map (some bm)) (.string n) false).run Tryz.prog w = .ok (if (get n.data.toList s.F).isSome then .pointer (some ⟨blk n.data.toList, 0, none⟩) else .pointer none) w := by
  exact map_look h.hm n hn
end
end Dk
end Go.Proofs.YtjlchphbkmaacaaGreatDoor
