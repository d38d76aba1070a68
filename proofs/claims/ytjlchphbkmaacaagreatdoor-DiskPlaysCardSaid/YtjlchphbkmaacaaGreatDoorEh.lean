/- What a crash writes: a file's bytes anew, its last byte, how many are fast. -/
import Derived.Test.YtjlchphbkmaacaaGreatDoorEe
import Derived.Test.YtjlchphbkmaacaaGreatDoorDt
set_option linter.unusedVariables false
set_option linter.unusedSimpArgs false
namespace Go.Proofs.YtjlchphbkmaacaaGreatDoor
open Go.RowKit Go.MapKept Go.ChangeMaps Go.Maps
open Dk

section
variable {ρ : Nat → Option Role} {w w2 w3 : World} {bd : Nat} {s : St} {bm : Nat} {blk : Nm → Nat} {dv : Nm → Value}

/-- A file's bytes are new memory. -/
theorem Dk.RepX.one (hr : RepX ρ w2 bd s bm blk dv) {n : Nm} {f : Fi} (hf : get n s.F = some f) (hb : Below w2.heap.size w2 w3) (v : Value) (b' : List UInt8)
    (hv : w3.ownsRow w2.heap.size 5 1 v b'.length (b'.map encU8)) :
    ∃ ρ', RepX ρ' (w3.setCell ⟨blk n, 0, none⟩ v) bd { s with F := setF n ⟨b', f.fast⟩ s.F } bm blk (updV dv n v) ∧ Fr ρ ρ' w2 (w3.setCell ⟨blk n, 0, none⟩ v) := by
  have hx := get_mem hf
  have hblk := (hr.below hb).hf _ hx
  simp only at hblk
  have hlt := (Array.getElem?_eq_some_iff.1 hblk).1
  have hlt2 := hr.lt _ _ (hr.rf _ hx)
  simp only at hlt2
  rw [setCell_eq w3 (blk n) 0 v _ _ _ hblk]
  refine hr.setFile hf v ⟨b', f.fast⟩ ?_ ?_ ?_ ?_
  · rw [heap_setBlock hlt]; rfl
  · refine ownsRow_block (ownsRow_base0 hv) fun k hk => Dk.setBlock_other _ _ _ ?_
    rintro rfl
    have := (hv.lt _ hk).1
    omega
  · exact fun k hk => .inr (hv.lt k hk).1
  · refine ⟨hb.os, hb.tape, hb.output, by rw [Dk.setBlock_size]; exact hb.size, fun b hlt' hne => ?_⟩
    rw [Dk.setBlock_other _ _ _ (fun e => hne (.inl e))]
    exact hb.block b hlt'

/-- How many bytes are fast. -/
theorem Dk.RepX.fastSet (hr : RepX ρ w bd s bm blk dv) {n : Nm} {f : Fi} (hf : get n s.F = some f) (k : Nat) :
    ∃ ρ', RepX ρ' (w.setCell ⟨blk n, 1, none⟩ (.int .i64 k)) bd { s with F := setF n ⟨f.b, k⟩ s.F } bm blk (updV dv n (dv n)) ∧ Fr ρ ρ' w (w.setCell ⟨blk n, 1, none⟩ (.int .i64 k)) := by
  have hx := get_mem hf
  have hblk := hr.hf _ hx
  simp only at hblk
  have hlt := (Array.getElem?_eq_some_iff.1 hblk).1
  rw [setCell_eq w (blk n) 1 _ _ _ _ hblk]
  refine hr.setFile hf (dv n) ⟨f.b, k⟩ ?_ ?_ ?_ ?_
  · rw [heap_setBlock hlt]; rfl
  · refine ownsRow_block (hr.hv _ hx) fun g hg => Dk.setBlock_other _ _ _ ?_
    rintro rfl
    have h1 := hr.rv _ hx _ hg
    rw [hr.rf _ hx] at h1
    cases h1
  · exact fun g hg => .inl hg
  · exact ⟨rfl, rfl, rfl, by rw [Dk.setBlock_size]; exact Nat.le_refl _, fun b _ hne => Dk.setBlock_other _ _ _ fun e => hne (.inl e)⟩

/-- One byte of a file's. -/
theorem Dk.RepX.byteSet (hr : RepX ρ w bd s bm blk dv) {n : Nm} {f : Fi} (hf : get n s.F = some f) {g m cap : Nat} (hv : dv n = .slice (some ⟨g, 0, none⟩) m cap) (i : Nat) (hi : i < f.b.length) (u : UInt8) :
    ∃ ρ', RepX ρ' (w.setCell ⟨g, i, none⟩ (.int .u8 u.toNat)) bd { s with F := setF n ⟨f.b.set i u, f.fast⟩ s.F } bm blk (updV dv n (dv n)) ∧ Fr ρ ρ' w (w.setCell ⟨g, i, none⟩ (.int .u8 u.toNat)) := by
  have hx := get_mem hf
  have hblk := hr.hf _ hx
  have hrow := hr.hv _ hx
  simp only at hblk hrow
  obtain ⟨hbd, ⟨he, hz⟩ | ⟨g', cap', cur, he, hge, hg, hc1, hc2, hcs, hct⟩⟩ := hrow
  · rw [hv] at he
    simp at he
  · rw [hv] at he
    simp only [Value.slice.injEq, Option.some.injEq, Addr.mk.injEq] at he
    obtain ⟨⟨rfl, -, -⟩, rfl, rfl⟩ := he
    have hlt := (Array.getElem?_eq_some_iff.1 hg).1
    have hne : g ≠ blk n := by
      rintro rfl
      have h1 := hr.rv _ hx _ (by rw [hv]; rfl)
      rw [hr.rf _ hx] at h1
      cases h1
    rw [setCell_eq w g i _ _ _ _ hg]
    refine hr.setFile hf (dv n) ⟨f.b.set i u, f.fast⟩ ?_ ?_ ?_ ?_
    · rw [Dk.setBlock_other _ _ _ (Ne.symm hne)]; exact hblk
    · rw [hv]
      refine ⟨by simp, .inr ⟨g, cap, cur.setIfInBounds i (.int .u8 u.toNat), by simp, hge, heap_setBlock hlt _, by simpa using hc1, by simpa using hc2, by simpa using hcs, ?_⟩⟩
      rw [Array.toList_setIfInBounds, List.map_set]
      have : (f.b.set i u).length * 1 = f.b.length * 1 := by simp
      rw [this, List.take_set, hct]
      rfl
    · exact fun g hg => .inl hg
    · exact ⟨rfl, rfl, rfl, by rw [Dk.setBlock_size]; exact Nat.le_refl _, fun b _ hne => Dk.setBlock_other _ _ _ fun e => hne (.inr (by rw [hv]; simp [Value.ownBlock, e]))⟩

/-- The power is back. -/
theorem Dk.RepX.powered (hr : RepX ρ w bd s bm blk dv) :
    RepX ρ ((w.setCell ⟨bd, 3, none⟩ (.bool false)).setCell ⟨bd, 2, none⟩ (.int .i64 (-1))) bd { s with off := false, fuse := -1 } bm blk dv ∧ Fr ρ ρ w ((w.setCell ⟨bd, 3, none⟩ (.bool false)).setCell ⟨bd, 2, none⟩ (.int .i64 (-1))) := by
  have hlt := hr.bdlt
  have e1 := setCell_eq w bd 3 (.bool false) _ _ _ hr.hd
  have hblk1 : (setBlock w bd (.cells (#[.map (some bm), .int .i64 s.quota, .int .i64 s.fuse, .bool s.off].setIfInBounds 3 (.bool false)) 58 (0, 0))).heap[bd]? = some (.cells #[.map (some bm), .int .i64 s.quota, .int .i64 s.fuse, .bool false] 58 (0, 0)) := by
    rw [heap_setBlock hlt]; rfl
  have e2 := setCell_eq _ bd 2 (.int .i64 (-1)) _ _ _ hblk1
  rw [e1, e2, setBlock_twice]
  exact ⟨hr.own s.quota (-1) false, Fr.setBlock hr.rd _⟩
end

/-- What a file's block turns to is asked once more. -/
theorem Dk.setF_setF (n : Nm) (f g : Fi) (F : List (Nm × Fi)) : setF n g (setF n f F) = setF n g F := by
  unfold setF
  rw [List.map_map]
  refine List.map_congr_left fun x _ => ?_
  simp only [Function.comp]
  by_cases h : x.1 == n
  · simp only [if_pos h]
  · simp only [if_neg h]
theorem Dk.get_setF {n : Nm} {f g : Fi} {F : List (Nm × Fi)} (h : get n F = some f) : get n (setF n g F) = some g := by
  induction F with
  | nil => simp [get] at h
  | cons x r ih =>
    by_cases hx : x.1 == n
    · have hx' := beq_iff_eq.1 hx
      unfold get setF
      rw [List.map_cons, if_pos hx, List.find?_cons_of_pos (by simpa using hx')]
      rfl
    · have hne : x.1 ≠ n := by simpa using hx
      rw [get_cons_ne hne] at h
      rw [setF_cons_ne hne, get_cons_ne hne]
      exact ih h
theorem bits_xor_u8 (a b : UInt8) : bits .xor .u8 (a.toNat : Int) (b.toNat : Int) = ((a.toNat ^^^ b.toNat : Nat) : Int) := by
  have ha : a.toNat < 256 := a.toNat_lt
  have hb : b.toNat < 256 := b.toNat_lt
  have hx : a.toNat ^^^ b.toNat < 2 ^ 8 := Nat.xor_lt_two_pow (by omega) (by omega)
  have h1 : (BitVec.ofInt 8 (a.toNat : Int)).toNat = a.toNat := by
    rw [BitVec.ofInt_natCast, BitVec.toNat_ofNat]; exact Nat.mod_eq_of_lt (by omega)
  have h2 : (BitVec.ofInt 8 (b.toNat : Int)).toNat = b.toNat := by
    rw [BitVec.ofInt_natCast, BitVec.toNat_ofNat]; exact Nat.mod_eq_of_lt (by omega)
  show IntKind.u8.wrap ((BitVec.ofInt 8 (a.toNat : Int) ^^^ BitVec.ofInt 8 (b.toNat : Int)).toNat : Int) = _
  rw [BitVec.toNat_xor, h1, h2]
  have : IntKind.u8.wrap ((a.toNat ^^^ b.toNat : Nat) : Int) = ((a.toNat ^^^ b.toNat : Nat) : Int) % 256 := by simp [IntKind.wrap, IntKind.bits, IntKind.signed]
  rw [this]
  omega
end Go.Proofs.YtjlchphbkmaacaaGreatDoor
