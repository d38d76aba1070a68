/- Rows of the call's own beside a disk; bytes as picks. -/
import Derived.Test.YtjlchphbkmaacaaDoorGd
import Derived.Test.YtjlchphbkmaacaaDoorFh
import Derived.Deep.AppendLies
set_option linter.unusedVariables false
set_option linter.unusedSimpArgs false
namespace Go.Proofs.YtjlchphbkmaacaaDoor
open Go.RowKit Go.MapKept Go.ChangeMaps Go.Maps
attribute [local go_sem ↓] Go.wp_at_zero Go.wp_at_succ
open Dk

/-- A type of slices whose elements take one cell. -/
structure El (T E : TypeId) (z : Value) (by' : Nat) : Prop where
  und : Tryd.prog.underlying T = some (.slice E)
  info : (Tryd.prog.info? E).map (fun i => (i.zero, i.size, i.bytes)) = some (some z, 1, by')
  one : z.cells.size = 1

/-- One element more behind a row of the call's own. -/
theorem push {T E : TypeId} {z : Value} {b : Nat} (h : El T E z b) (w : World) (base : Nat) (v : Value) (n : Nat) (xs : List Value) (hown : w.ownsRow base E 1 v n xs) (x : Value) (hx : x.oneCell' = true)
    (hn : n + 1 ≤ maxLen) (hb : (n + 1) * b ≤ 140737488355328) (hbase : base ≤ w.heap.size) (ty : TypeId) :
    ∃ v' w', (Builtin.append_ #[T, T] ty #[v, .slice (some ⟨w.heap.size, 0, none⟩) 1 1]).run Tryd.prog (w.alloc (.cells #[x] E)) = .ok v' w' ∧ w'.ownsRow base E 1 v' (n + 1) (xs ++ [x]) ∧
      (w.alloc (.cells #[x] E)).grownBy w' v.ownBlock ∧ (v'.ownBlock = v.ownBlock ∨ v'.ownBlock = some (w.heap.size + 1)) := by
  obtain ⟨i0, hi, hz0, hz1, hz2⟩ := info_parts h.info
  obtain ⟨v', w', hr, h1, h2, _, h4⟩ := run_append_own_at (P := Tryd.prog) (w.alloc (.cells #[x] E)) base T ty E i0 z 1 b h.und hi hz0 hz1 hz2 h.one (by decide) v n xs (hown.alloc _) ⟨w.heap.size, 0, none⟩ 1 1 [x] rfl
    (fun j u hu => by
      have hj : j = 0 := by
        have := (List.getElem?_eq_some_iff.1 hu).1
        simp at this
        omega
      subst hj
      have e : u = x := by simpa using hu.symm
      subst e
      rw [show (⟨w.heap.size, 0, none⟩ : Addr).add 0 = ⟨w.heap.size, 0, none⟩ from rfl]
      exact cell_of_block (i := 0) (allocs_at [.cells #[u] E] w 0 _ rfl))
    (fun u hu => by simp at hu; rw [hu]; exact hx) hn hb (by simp; omega)
  exact ⟨v', w', hr, h1, h2, by simpa using h4⟩

theorem ownsRow_len {w : World} {b : Nat} {e : TypeId} {v : Value} {n : Nat} {xs : List Value} (h : w.ownsRow b e 1 v n xs) : xs.length = n := by
  have := h.1
  omega

/-- A row of the call's own, beside the disk. -/
structure Dk.RowV (ρ : Nat → Option Role) (w : World) (B : Nat) (E : TypeId) (v : Value) (xs : List Value) : Prop where
  own : w.ownsRow B E 1 v xs.length xs
  out : ∀ g, v.ownBlock = some g → ρ g = none

section
variable {ρ ρ' : Nat → Option Role} {w w' : World} {B : Nat} {E E' : TypeId} {v v' : Value} {xs xs' : List Value}
theorem Dk.RowV.fr (h : RowV ρ w B E v xs) (hf : Fr ρ ρ' w w') : RowV ρ' w' B E v xs :=
  ⟨ownsRow_block h.own fun g hg => (hf.block g (h.own.lt g hg).2 (h.out g hg)).1, fun g hg => (hf.block g (h.own.lt g hg).2 (h.out g hg)).2⟩
theorem Dk.RowV.below (h : RowV ρ w B E v xs) (hb : Below w.heap.size w w') : RowV ρ w' B E v xs :=
  ⟨ownsRow_block h.own fun g hg => hb.block g (h.own.lt g hg).2, h.out⟩
theorem Dk.RowV.ne (h : RowV ρ w B E v xs) (h' : RowV ρ w B E' v' xs') (hE : E ≠ E') : ∀ g, v.ownBlock = some g → v'.ownBlock ≠ some g := fun g hg hg' => by
  rcases h.own.2 with ⟨e, _⟩ | ⟨g1, c1, cur1, e1, _, b1, _⟩
  · rw [e] at hg; cases hg
  · rcases h'.own.2 with ⟨e, _⟩ | ⟨g2, c2, cur2, e2, _, b2, _⟩
    · rw [e] at hg'; cases hg'
    · rw [e1] at hg
      rw [e2] at hg'
      simp only [Value.ownBlock, Option.some.injEq] at hg hg'
      subst hg hg'
      rw [b1] at b2
      simp only [Option.some.injEq, Obj.cells.injEq] at b2
      exact hE b2.2.1
theorem Dk.RowV.grown (h : RowV ρ w B E v xs) {row : Option Nat} (hg : w.grownBy w' row) (hne : ∀ g, v.ownBlock = some g → row ≠ some g) : RowV ρ w' B E v xs :=
  ⟨ownsRow_block h.own fun g hv => hg.block g (h.own.lt g hv).2 (fun e => hne g hv e.symm), h.out⟩
theorem Dk.RowV.form (h : RowV ρ w B E v xs) : ∃ p c, v = .slice p xs.length c := own_slice h.own
theorem Dk.RowV.weak {B' : Nat} (h : RowV ρ w B E v xs) (hb : B' ≤ B) : RowV ρ w B' E v xs := ⟨own_base h.own fun g hg => Nat.le_trans hb (h.own.lt g hg).1, h.out⟩
theorem Dk.RowV.cell (h : RowV ρ w B E v xs) {j : Nat} {u : Value} (hj : xs[j]? = some u) : ∃ g c, v = .slice (some ⟨g, 0, none⟩) xs.length c ∧ w.cell? ⟨g, j, none⟩ = some u ∧ w.frozen? ⟨g, j, none⟩ = false ∧ B ≤ g := by
  have hlt : 0 < xs.length := by have := (List.getElem?_eq_some_iff.1 hj).1; omega
  obtain ⟨g, c, hv, hb, _⟩ := h.own.form hlt
  have hc := h.own.cells (g := g) (by rw [hv]; rfl) j u hj
  have e1 : (⟨g, 0, none⟩ : Addr).add j = ⟨g, j, none⟩ := by
    unfold Addr.add
    split
    · rename_i h0; rw [h0]
    · simp
  rw [e1] at hc
  refine ⟨g, c, hv, hc, ?_, hb⟩
  rcases h.own.2 with ⟨e, _⟩ | ⟨g1, c1, cur1, e1, _, b1, _⟩
  · rw [e] at hv; cases hv
  · rw [e1] at hv
    simp only [Value.slice.injEq, Option.some.injEq, Addr.mk.injEq] at hv
    obtain ⟨⟨rfl, _⟩, _⟩ := hv
    exact frozen_of_block b1
/-- The disk stays while a row beside it grows. -/
theorem Dk.Rep.grown {bd : Nat} {s : St} (h : Rep ρ w bd s) {row : Option Nat} (hg : w.grownBy w' row) (hr : ∀ g, row = some g → ρ g = none) : Rep ρ w' bd s := by
  obtain ⟨bm, blk, dv, h⟩ := h
  exact ⟨bm, blk, dv, h.beside hg.size fun b r hb => hg.block b (h.lt b r hb) (fun e => by rw [hr b e.symm] at hb; cases hb)⟩
end

theorem el_u16 : El 23 59 (.int .u16 0) 2 := ⟨Tryd.underlying23, by kernel_rfl, rfl⟩
theorem el_int : El 36 3 (.int .i64 0) 8 := ⟨Tryd.underlying36, by kernel_rfl, rfl⟩
theorem el_rows : El 35 24 (.slice none 0 0) 24 := ⟨Tryd.underlying35, by kernel_rfl, rfl⟩

def encU16 (c : UInt8) : Value := .int .u16 c.toNat
def T16Post (w : World) (m : Nat) (bs : List UInt8) (e : Ending) (w' : World) : Prop :=
  ∃ q d, e = .returned (.slice q m d) ∧ w'.ownsRow w.heap.size 59 1 (.slice q m d) m (bs.map encU16) ∧ Below w.heap.size w w'

set_option maxRecDepth 100000 in
set_option maxHeartbeats 1000000 in
theorem torn16_any (w : World) (p : Option Addr) (m c : Nat) (bs : List UInt8) (hp : BytesAt w p m bs) (hm : m ≤ 1048576) :
    Calls Tryd.prog 15 #[.slice p m c] w (T16Post w m bs) := by
  have HP := Lib.hid hp
  clear hp
  go_enter Tryd.func15, Tryd.ntmps15
  go_wp2_with fail
  go_loopw [3, 8] (fun v i wr => ∃ k : Nat, k ≤ m ∧ i = .int .i64 k ∧ wr.ownsRow w.heap.size 59 1 v k ((bs.take k).map encU16) ∧ Below w.heap.size w wr) (fun _ i _ => m - (intOf i).toNat)
  case atStart => exact ⟨0, Nat.zero_le _, rfl, World.ownsRow_nil _ _ _ _, Below.refl _ _⟩
  case round =>
    obtain ⟨k, hk, rfl, hown, hb⟩ := hrel
    have HB := Lib.hid hb
    clear hb
    by_cases hlt : k < m
    · have hlen := HP.out.len
      have hbk : bs[k]? = some bs[k] := List.getElem?_eq_getElem (by omega)
      obtain ⟨a, rfl, hc⟩ := bytes_torn HP.out hlt
      have hc' := (HB.out.cell (cell_lt hc)).trans hc
      have e1 : bs.getD k 0 = bs[k] := by rw [List.getD_eq_getElem?_getD, hbk]; rfl
      rw [e1] at hc'
      have hu : (0 : Int) ≤ (bs[k].toNat : Int) := by omega
      have hu2 : (bs[k].toNat : Int) < 256 := by have := bs[k].toNat_lt; omega
      obtain ⟨v', w', hrun, h1, h2, h3⟩ := push el_u16 wr w.heap.size u3 k _ hown (encU16 bs[k]) rfl (by unfold maxLen; omega) (by omega) HB.out.size 23
      have hb' : Below w.heap.size w w' := (HB.out.alloc HB.out.size _).grown h2 (by simp; have := HB.out.size; omega) (fun g hg => by
        have := (hown.lt g hg).1
        exact this)
      have hts : (bs.take (k + 1)).map encU16 = (bs.take k).map encU16 ++ [encU16 bs[k]] := by
        rw [List.take_succ_eq_append_getElem (by omega), List.map_append]
        rfl
      rw [← hts] at h1
      have H1 := Lib.hid h1
      have HB' := Lib.hid hb'
      clear h1 h2 h3 hb' hts hown hbk hc e1
      go_wp2_with (first
        | (at_builtin; refine wpList_append_run rfl _ _ 23 rfl _ _ _ rfl rfl hrun ?_)
        | fail)
      go_roundw
      case rel => exact ⟨k + 1, by omega, by go_num, H1.out, HB'.out⟩
      case measure => simp [intOf]; omega
    · obtain rfl : k = m := by omega
      obtain ⟨q, d, rfl⟩ := own_slice hown
      have HO := Lib.hid hown
      clear hown
      go_wp2_with fail
      go_ret
      refine ⟨q, d, rfl, ?_, HB.out⟩
      have h := HO.out
      rwa [List.take_of_length_le (by rw [HP.out.len]; exact Nat.le_refl _)] at h

theorem slice_prefix (p : Option Addr) (n c k : Nat) (hk : k ≤ c) (w : World) : (Instr.slice 24 (.slice p n c) none (some (.int .i64 k)) none).run Tryd.prog w = .ok (.slice p k c) w := by
  have hsz : (sizeOf (Tryd.prog.elem 24)).run Tryd.prog w = .ok 1 w := by kernel_rfl
  rw [run_slice_h (P := Tryd.prog) w 24 p n c (by kernel_rfl) .i64 (k : Int) (by omega) (by omega), hsz]
  have e : (if c = 0 then p else p.map (·.add (0 * 1))) = p := by
    split
    · rfl
    · cases p with
      | none => rfl
      | some a => simp [Addr.add]
  show Result.ok (sliced p 0 (k : Int).toNat c 1) w = _
  unfold sliced
  rw [e]
  simp

/-! ### what DiskKeeps has beside its disk -/
abbrev intV (n : Nat) : Value := .int .i64 n
/-- Names, what each file had, how much of it was loose. -/
structure Dk.Kp (ρ : Nat → Option Role) (w wr : World) (bd : Nat) (s : St) (ns : List Nm) (vn a b : Value) (G : List (List UInt8)) (L : List Nat) : Prop where
  rep : Rep ρ wr bd s
  old : ∀ k, k < w.heap.size → ρ k = none
  bel : Below w.heap.size w wr
  nm : RowV ρ wr w.heap.size 9 vn (ns.map encStr)
  was : ∃ vs : List Value, RowV ρ wr w.heap.size 24 a vs ∧ vs.length = G.length ∧ ∀ (j : Nat) (g : List UInt8), G[j]? = some g → ∃ v : Value, vs[j]? = some v ∧ RowV ρ wr w.heap.size 5 v (g.map encU8)
  ls : RowV ρ wr w.heap.size 3 b (L.map intV)

section
variable {ρ ρ' : Nat → Option Role} {w wr w' : World} {bd : Nat} {s s' : St} {ns : List Nm} {vn a b : Value} {G : List (List UInt8)} {L : List Nat}
theorem Dk.Kp.fr (h : Kp ρ w wr bd s ns vn a b G L) (hr : Rep ρ' w' bd s') (hf : Fr ρ ρ' wr w') : Kp ρ' w w' bd s' ns vn a b G L where
  rep := hr
  old := hf.none h.bel.size h.old
  bel := h.bel.trans (hf.below h.bel.size h.old)
  nm := h.nm.fr hf
  was := by
    obtain ⟨vs, h1, h2, h3⟩ := h.was
    exact ⟨vs, h1.fr hf, h2, fun j g hg => by obtain ⟨v, e, r⟩ := h3 j g hg; exact ⟨v, e, r.fr hf⟩⟩
  ls := h.ls.fr hf
theorem Dk.Kp.below (h : Kp ρ w wr bd s ns vn a b G L) (hb : Below wr.heap.size wr w') : Kp ρ w w' bd s ns vn a b G L := h.fr (h.rep.below hb) (Fr.of_below hb)
theorem Dk.Kp.fresh (h : Kp ρ w wr bd s ns vn a b G L) {k : Nat} (hk : wr.heap.size ≤ k) : ρ k = none := by
  obtain ⟨_, _, _, hx⟩ := h.rep
  exact hx.fresh hk
/-- A row that was just made. -/
theorem Dk.Kp.row (h : Kp ρ w wr bd s ns vn a b G L) {E : TypeId} {v : Value} {n : Nat} {xs : List Value} (hv : w'.ownsRow wr.heap.size E 1 v n xs) : RowV ρ w' w.heap.size E v xs := by
  have hl := ownsRow_len hv
  subst hl
  exact ⟨own_base hv fun g hg => Nat.le_trans h.bel.size (hv.lt g hg).1, fun g hg => h.fresh (hv.lt g hg).1⟩

/-- One of what each file had more. -/
theorem Dk.Kp.push1 (h : Kp ρ w wr bd s ns vn a b G L) {g : List UInt8} {v : Value} (hv : RowV ρ wr w.heap.size 5 v (g.map encU8)) (hn : G.length ≤ 512) (ty : TypeId) :
    ∃ a' w', (Builtin.append_ #[35, 35] ty #[a, .slice (some ⟨wr.heap.size, 0, none⟩) 1 1]).run Tryd.prog (wr.alloc (.cells #[v] 24)) = .ok a' w' ∧ Kp ρ w w' bd s ns vn a' b (G ++ [g]) L := by
  have hb0 := bel_alloc (Below.refl wr.heap.size wr) (.cells #[v] 24)
  obtain ⟨vs, h1, h2, h3⟩ := h.was
  obtain ⟨p, c, hvf⟩ := hv.form
  obtain ⟨a', w', hr, k1, k2, k3⟩ := push el_rows wr w.heap.size a vs.length vs h1.own v (by rw [hvf]; rfl) (by unfold maxLen; omega) (by omega) h.bel.size ty
  have H := h.below hb0
  have hout : ∀ k, a.ownBlock = some k → ρ k = none := h1.out
  refine ⟨a', w', hr, H.rep.grown k2 hout, h.old, H.bel.grown k2 H.bel.size fun k hk => (h1.own.lt k hk).1, ?_, ⟨vs ++ [v], ⟨?_, ?_⟩, by simp [h2], ?_⟩, ?_⟩
  · exact H.nm.grown k2 fun k hk => (h1.below hb0).ne H.nm (by decide) k |> fun f e => f e hk
  · rw [List.length_append]; exact k1
  · intro k hk
    rcases k3 with e | e
    · exact h1.out k (by rw [← e]; exact hk)
    · rw [e] at hk
      cases hk
      exact h.fresh (Nat.le_succ _)
  · intro j x hx
    have one : ∀ u y, RowV ρ wr w.heap.size 5 u (y : List Value) → RowV ρ w' w.heap.size 5 u y := fun u y r => (r.below hb0).grown k2 fun k hk e => (h1.below hb0).ne (r.below hb0) (by decide) k e hk
    by_cases hj : j < G.length
    · rw [List.getElem?_append_left hj] at hx
      obtain ⟨u, e, r⟩ := h3 j x hx
      exact ⟨u, by rw [List.getElem?_append_left (by omega)]; exact e, one _ _ r⟩
    · have hj2 : j = G.length := by
        have := (List.getElem?_eq_some_iff.1 hx).1
        simp at this
        omega
      subst hj2
      simp at hx
      subst hx
      exact ⟨v, by rw [← h2]; simp, one _ _ hv⟩
  · exact H.ls.grown k2 fun k hk e => (h1.below hb0).ne H.ls (by decide) k e hk
/-- One number more. -/
theorem Dk.Kp.push2 (h : Kp ρ w wr bd s ns vn a b G L) (x : Nat) (hn : L.length ≤ 512) (ty : TypeId) :
    ∃ b' w', (Builtin.append_ #[36, 36] ty #[b, .slice (some ⟨wr.heap.size, 0, none⟩) 1 1]).run Tryd.prog (wr.alloc (.cells #[intV x] 3)) = .ok b' w' ∧ Kp ρ w w' bd s ns vn a b' G (L ++ [x]) := by
  have hb0 := bel_alloc (Below.refl wr.heap.size wr) (.cells #[intV x] 3)
  obtain ⟨b', w', hr, k1, k2, k3⟩ := push el_int wr w.heap.size b _ _ h.ls.own (intV x) rfl (by rw [List.length_map]; unfold maxLen; omega) (by rw [List.length_map]; omega) h.bel.size ty
  have H := h.below hb0
  obtain ⟨vs, h1, h2, h3⟩ := H.was
  refine ⟨b', w', hr, H.rep.grown k2 h.ls.out, h.old, H.bel.grown k2 H.bel.size fun k hk => (h.ls.own.lt k hk).1, ?_, ⟨vs, ?_, h2, ?_⟩, ⟨?_, ?_⟩⟩
  · exact H.nm.grown k2 fun k hk e => H.ls.ne H.nm (by decide) k e hk
  · exact h1.grown k2 fun k hk e => H.ls.ne h1 (by decide) k e hk
  · intro j x hx
    obtain ⟨u, e, r⟩ := h3 j x hx
    exact ⟨u, e, r.grown k2 fun k hk e => H.ls.ne r (by decide) k e hk⟩
  · rw [List.map_append, List.map_cons, List.map_nil, List.length_append]; exact k1
  · intro k hk
    rcases k3 with e | e
    · exact h.ls.out k (by rw [← e]; exact hk)
    · rw [e] at hk
      cases hk
      exact h.fresh (Nat.le_succ _)
/-- What one file has takes the place of what it had. -/
theorem Dk.Kp.set (h : Kp ρ w wr bd s ns vn a b G L) {g : List UInt8} {v : Value} (hv : RowV ρ wr w.heap.size 5 v (g.map encU8)) {q n c : Nat} (ha : a = .slice (some ⟨q, 0, none⟩) n c) (j : Nat) :
    Kp ρ w (wr.setCell ⟨q, j, none⟩ v) bd s ns vn a b (G.set j g) L := by
  subst ha
  obtain ⟨vs, h1, h2, h3⟩ := h.was
  have h1' := h1.own
  have hn : vs.length = n := by
    obtain ⟨p, c', e⟩ := h1.form
    simp only [Value.slice.injEq] at e
    exact e.2.1.symm
  rw [hn] at h1'
  obtain ⟨k1, k2⟩ := h1'.stored j v
  have one : ∀ u (y : List Value), RowV ρ wr w.heap.size 5 u y → RowV ρ (wr.setCell ⟨q, j, none⟩ v) w.heap.size 5 u y := fun u y r => r.grown k2 fun k hk e => h1.ne r (by decide) k e hk
  refine ⟨h.rep.grown k2 h1.out, h.old, h.bel.grown k2 h.bel.size fun k hk => (h1.own.lt k hk).1, ?_, ⟨vs.set j v, ⟨?_, h1.out⟩, by simp [h2], ?_⟩, ?_⟩
  · exact h.nm.grown k2 fun k hk e => h1.ne h.nm (by decide) k e hk
  · rw [List.length_set, hn]; exact k1
  · intro i x hx
    by_cases hij : j = i
    · subst hij
      have hl : j < G.length := by
        have := (List.getElem?_eq_some_iff.1 hx).1
        simpa using this
      rw [List.getElem?_set_self hl] at hx
      cases hx
      exact ⟨v, by rw [List.getElem?_set_self (by omega)], one _ _ hv⟩
    · rw [List.getElem?_set_ne hij] at hx
      obtain ⟨u, e, r⟩ := h3 i x hx
      exact ⟨u, by rw [List.getElem?_set_ne hij]; exact e, one _ _ r⟩
  · exact h.ls.grown k2 fun k hk e => h1.ne h.ls (by decide) k e hk

theorem ba_list (l : List UInt8) : (⟨l.toArray⟩ : ByteArray).data.toList = l := rfl
theorem nm_small {s : St} (hg : Fine s) {x : Nm × Fi} (hx : x ∈ s.F) : (⟨x.1.toArray⟩ : ByteArray).size ≤ maxLen := by
  have := hg.name x hx
  show x.1.toArray.size ≤ maxLen
  rw [List.size_toArray]
  unfold maxLen
  omega
def KpRead (ρ : Nat → Option Role) (w wr : World) (bd : Nat) (s : St) (ns : List Nm) (vn a b : Value) (G : List (List UInt8)) (L : List Nat) (bs : List UInt8) (e : Ending) (w' : World) : Prop :=
  ∃ p c, e = .returned (.tuple #[.slice p bs.length c, .int .i64 0]) ∧ RowV ρ w' w.heap.size 5 (.slice p bs.length c) (bs.map encU8) ∧ Kp ρ w w' bd s ns vn a b G L ∧ Below wr.heap.size wr w'
/-- A file's bytes, read. -/
theorem Dk.Kp.read (h : Kp ρ w wr bd s ns vn a b G L) (hg : Fine s) (hm : Mays s) (hl : Dk.Lit s) {i : Nat} {x : Nm × Fi} (hx : s.F[i]? = some x) :
    Calls Tryd.prog 10 #[.pointer (some ⟨bd, 0, none⟩), .string ⟨x.1.toArray⟩] wr (KpRead ρ w wr bd s ns vn a b G L x.2.b) := by
  obtain ⟨bm, blk, dv, hr⟩ := h.rep
  have hmem := List.mem_of_getElem? hx
  refine (read_any hr hg ⟨x.1.toArray⟩ (nm_small hg hmem)).mono ?_
  rintro e w' ⟨v, rfl, hrow, hb⟩
  rw [ba_list, readB_at hl hm hg hx] at hrow
  rw [ba_list, readE_at hl hm hg hx]
  obtain ⟨p, c, rfl⟩ := own_slice hrow
  exact ⟨p, c, rfl, h.row hrow, h.below hb, hb⟩
def KpLoose (ρ : Nat → Option Role) (w wr : World) (bd : Nat) (s : St) (ns : List Nm) (vn a b : Value) (G : List (List UInt8)) (L : List Nat) (n : Nat) (e : Ending) (w' : World) : Prop :=
  e = .returned (.int .i64 n) ∧ Kp ρ w w' bd s ns vn a b G L ∧ Below wr.heap.size wr w'
/-- How much of it is loose. -/
theorem Dk.Kp.loose (h : Kp ρ w wr bd s ns vn a b G L) (hg : Fine s) (hm : Mays s) (hl : Dk.Lit s) {i : Nat} {x : Nm × Fi} (hx : s.F[i]? = some x) :
    Calls Tryd.prog 11 #[.pointer (some ⟨bd, 0, none⟩), .string ⟨x.1.toArray⟩] wr (KpLoose ρ w wr bd s ns vn a b G L (x.2.b.length - x.2.fast)) := by
  obtain ⟨bm, blk, dv, hr⟩ := h.rep
  have hmem := List.mem_of_getElem? hx
  refine (loose_any hr hg ⟨x.1.toArray⟩ (nm_small hg hmem)).mono ?_
  rintro e w' ⟨rfl, hb⟩
  rw [ba_list, loose_at hl hm hg hx]
  exact ⟨rfl, h.below hb, hb⟩
def KpCrash (w : World) (bd : Nat) (s : St) (ns : List Nm) (vn a b : Value) (G : List (List UInt8)) (L : List Nat) (e : Ending) (w' : World) : Prop :=
  e = .returned (.int .i64 0) ∧ ∃ ρ', Kp ρ' w w' bd s ns vn a b G L
theorem Dk.Kp.crash (h : Kp ρ w wr bd s ns vn a b G L) (hg : Fine s) (pp : Option Addr) (mp cp : Nat) (ps : List Nat) (hp : PicksAt ρ wr pp mp ps) (pt : Option Addr) (mt ct : Nat) (ts : List UInt8) (ht : TornAt ρ wr pt mt ts) :
    Calls Tryd.prog 12 #[.pointer (some ⟨bd, 0, none⟩), .slice pp mp cp, .slice pt mt ct] wr (KpCrash w bd (Dk.crash ps ts s) ns vn a b G L) := by
  obtain ⟨bm, blk, dv, hr⟩ := h.rep
  refine (crash_any hr hg pp mp cp ps hp pt mt ct ts ht).mono ?_
  rintro e w' ⟨rfl, ρ', hr', hf⟩
  exact ⟨rfl, ρ', h.fr hr' hf⟩
def KpNames (ρ : Nat → Option Role) (w wr : World) (bd : Nat) (s : St) (ns : List Nm) (vn a b : Value) (G : List (List UInt8)) (L : List Nat) (tt : List Nm) (e : Ending) (w' : World) : Prop :=
  ∃ p c, e = .returned (.slice p tt.length c) ∧ StrsAt w' p tt ∧ Kp ρ w w' bd s ns vn a b G L ∧ Below wr.heap.size wr w'
theorem Dk.Kp.names (h : Kp ρ w wr bd s ns vn a b G L) (hg : Fine s) {tt : List Nm} (ht : Dk.names s = tt) :
    Calls Tryd.prog 9 #[.pointer (some ⟨bd, 0, none⟩)] wr (KpNames ρ w wr bd s ns vn a b G L tt) := by
  subst ht
  obtain ⟨bm, blk, dv, hr⟩ := h.rep
  refine (names_any hr hg).mono ?_
  rintro e w' ⟨v, rfl, hrow, hb, _⟩
  obtain ⟨p, c, rfl⟩ := own_slice hrow
  exact ⟨p, c, rfl, StrsAt.of_own hrow, h.below hb, hb⟩
theorem Dk.RowV.bytes {B : Nat} {p : Option Addr} {n c : Nat} {bs : List UInt8} (h : RowV ρ w B 5 (.slice p n c) (bs.map encU8)) : BytesAt w p n bs ∧ n ≤ c ∧ c ≤ maxLen ∧ (p = none → c = 0) := by
  have h1 := h.own
  obtain ⟨p', c', e⟩ := h.form
  simp only [Value.slice.injEq] at e
  have hn : n = bs.length := by rw [e.2.1, List.length_map]
  rw [List.length_map, ← hn] at h1
  rw [hn] at h1
  refine ⟨by rw [hn]; exact BytesAt.of_own h1, ?_⟩
  rcases h1.2 with ⟨e1, e2⟩ | ⟨g, cap, cur, e1, _, _, hc, hm, _⟩
  · simp only [Value.slice.injEq] at e1
    obtain ⟨_, h2, rfl⟩ := e1
    exact ⟨by omega, by decide, fun _ => rfl⟩
  · simp only [Value.slice.injEq] at e1
    obtain ⟨rfl, h2, rfl⟩ := e1
    exact ⟨by omega, hm, fun e => by cases e⟩
theorem Dk.BytesAt.cut {p : Option Addr} {m k : Nat} {bs : List UInt8} (h : BytesAt w p m bs) (hk : k ≤ m) : BytesAt w p k (bs.take k) :=
  ⟨by rw [List.length_take, h.len]; omega, fun e => by have := h.nil e; omega, fun a e j u hu => h.cells a e j u (by
    rw [List.map_take, List.getElem?_take] at hu
    split at hu
    · exact hu
    · cases hu)⟩
end
end Go.Proofs.YtjlchphbkmaacaaDoor
