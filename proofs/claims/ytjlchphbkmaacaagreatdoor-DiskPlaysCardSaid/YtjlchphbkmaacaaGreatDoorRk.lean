/- Arguments opened: calls in a row; picks; bytes. And the last step of a statement's row. -/
import Derived.Test.YtjlchphbkmaacaaGreatDoorFg
import Derived.ProofKit
import Derived.OpenShut
import Derived.Carry
import Derived.SizedLaws
import Derived.Deep.Slices
import Derived.Deep.Fields
set_option linter.unusedVariables false
set_option linter.unusedSimpArgs false
namespace Go.Proofs.YtjlchphbkmaacaaGreatDoor
open Go.ChangeShapes Go.WideShapes Go.RowKit Go.Deep
open Dk

theorem rk_laidOut : laidOutB Tryz.prog = true := by kernel_rfl
noncomputable def actFs : Array Field := match Tryz.prog.underlying 34 with | some (.struct fs) => fs | _ => #[]
theorem act_fs : Tryz.prog.underlying 34 = some (.struct actFs) := by kernel_rfl
theorem act_size : actFs.size = 6 := by kernel_rfl
theorem act_cells : Tryz.prog.cellsOf 34 = 6 := by kernel_rfl
theorem act_types : actFs.toList.map (fun f => (f.type, f.offset)) = [(3, 0), (9, 1), (9, 2), (31, 3), (3, 4), (32, 5)] := by kernel_rfl
theorem act_ones : [3, 9, 9, 31, 3, 32].all (fun t => Tryz.prog.cellsOf t == 1) = true := by kernel_rfl
theorem rk_u8 : Tryz.prog.cellsOf 5 = 1 := by kernel_rfl
theorem rk_u16 : Tryz.prog.cellsOf 50 = 1 := by kernel_rfl
theorem rk_b8 : Tryz.prog.bytesOf 5 = 1 := by kernel_rfl
theorem rk_b16 : Tryz.prog.bytesOf 50 = 2 := by kernel_rfl
theorem rk_bact : 1 ≤ Tryz.prog.bytesOf 34 := of_decide_eq_true (by kernel_rfl)

theorem spot_none {w : World} {a : Addr} {v : Value} (h : w.cell? (a.add 0) = some v) : a.spot = none := by
  simpa [Addr.add] using World.cell?_spot h
theorem first_cell {w : World} {a : Addr} {k : Nat} {cs : List Value} (h : w.cells? 0 (a.add (0 * k)) k = some cs) (hk : 0 < k) : a.spot = none := by
  rw [Nat.zero_mul] at h
  obtain ⟨_, hl0, hat0⟩ := World.cells?_some h
  have h0 := hat0 0 hk
  rw [show (a.add 0).add 0 = a.add 0 from by simp [Addr.add], List.getElem?_eq_getElem (by omega)] at h0
  exact spot_none h0
theorem add_at (b o j : Nat) : (⟨b, o, none⟩ : Addr).add j = ⟨b, o + j, none⟩ := by
  unfold Addr.add
  split
  · rename_i h; rw [h]; rfl
  · rfl

section
variable {H : Type} {enc : TypeId × Value → H} {W : World}

/-- A slice of bytes, opened. -/
theorem bytes_of_trod {fuel : Nat} {v : Value} {y : DataW H × List MemPlace} (h : DataW.trod enc Tryz.prog W 0 (fun _ => true) true fuel 31 [v] = some y) (hsz : ∀ n ∈ y.1.weights Tryz.prog 31, n ≤ reachBytes) :
    ∃ (p : Option Addr) (m c : Nat) (bs : List UInt8), v = .slice p m c ∧ BytesAt W p m bs ∧ (p = none → c = 0) ∧ m ≤ 140737488355328 ∧ ∀ a, p = some a → m = 0 ∨ a.block < W.heap.size := by
  rcases open_ints Tryz.underlying31 Tryz.underlying5 rk_u8 h with ⟨hcs, rfl⟩ | ⟨a, len, cap, zs, hcs, _, hl, hm, hz, rfl, hcell, hwf⟩
  · obtain rfl : v = .slice none 0 0 := by simpa using hcs
    exact ⟨none, 0, 0, [], rfl, ⟨rfl, (fun _ => rfl), fun a e => by cases e⟩, (fun _ => rfl), by decide, fun a e => by cases e⟩
  · obtain rfl : v = .slice (some a) len cap := by simpa using hcs
    simp only [if_true] at hz
    have hw : cap ≤ reachBytes := by
      have := hsz ((lits (H := H) .u8 (zs.take len)).length + (lits (H := H) .u8 (zs.drop len)).length) (by simp [DataW.weights, Tryz.underlying31, rk_b8])
      simp only [lits, List.length_map, List.length_take, List.length_drop] at this
      omega
    have hr := reachBytes_lt
    refine ⟨some a, len, cap, (zs.take len).map fun z => UInt8.ofNat z.toNat, rfl, ⟨by simp; omega, (fun e => by cases e), fun a' e j u hu => ?_⟩, (fun e => by cases e), by omega, fun a' e => ?_⟩
    · cases e
      have hj : j < len := by
        have := (List.getElem?_eq_some_iff.1 hu).1
        simp at this
        omega
      have hjz : j < zs.length := by omega
      rw [hcell j hjz]
      have e1 : zs.getD j 0 = zs[j] := by rw [List.getD_eq_getElem?_getD, List.getElem?_eq_getElem hjz]; rfl
      have hb : 0 ≤ zs[j] ∧ zs[j] < 256 := by
        have h := hwf _ (List.getElem_mem hjz)
        have h1 : IntKind.u8.min = 0 := rfl
        have h2 : IntKind.u8.max = 255 := rfl
        simp only [Lit.wf, Bool.and_eq_true, decide_eq_true_eq] at h
        omega
      rw [← hu, e1]
      simp only [List.map_map, List.getElem?_map, List.getElem?_take, hj, if_true, List.getElem?_eq_getElem hjz, Option.map_some, Function.comp, encU8]
      congr 2
      rw [UInt8.toNat_ofNat']
      omega
    · cases e
      rcases Nat.eq_zero_or_pos len with h0 | h0
      · exact .inl h0
      · exact .inr (by
          have := cell_lt (hcell 0 (by omega))
          rwa [add_block'] at this)

/-- A slice of picks, opened. -/
theorem picks_of_trod {fuel : Nat} {v : Value} {y : DataW H × List MemPlace} (h : DataW.trod enc Tryz.prog W 0 (fun _ => true) true fuel 32 [v] = some y) :
    ∃ (p : Option Addr) (m c : Nat) (ps : List Nat), v = .slice p m c ∧ ps.length = m ∧ (∀ x ∈ ps, x < 65536) ∧ (∀ j, j < m → ∃ a, p = some a ∧ W.cell? (a.add j) = some (.int .u16 (ps.getD j 0))) := by
  rcases open_ints Tryz.underlying32 Tryz.underlying50 rk_u16 h with ⟨hcs, rfl⟩ | ⟨a, len, cap, zs, hcs, _, hl, hm, hz, rfl, hcell, hwf⟩
  · obtain rfl : v = .slice none 0 0 := by simpa using hcs
    exact ⟨none, 0, 0, [], rfl, rfl, (fun x hx => by cases hx), fun j hj => absurd hj (Nat.not_lt_zero _)⟩
  · obtain rfl : v = .slice (some a) len cap := by simpa using hcs
    simp only [if_true] at hz
    have hw16 : ∀ z ∈ zs, 0 ≤ z ∧ z < 65536 := fun z hz => by
      have h := hwf z hz
      have h1 : IntKind.u16.min = 0 := rfl
      have h2 : IntKind.u16.max = 65535 := rfl
      simp only [Lit.wf, Bool.and_eq_true, decide_eq_true_eq] at h
      omega
    refine ⟨some a, len, cap, (zs.take len).map Int.toNat, rfl, by simp; omega, fun x hx => ?_, fun j hj => ⟨a, rfl, ?_⟩⟩
    · obtain ⟨z, hz, rfl⟩ := List.mem_map.1 hx
      have := hw16 z (List.mem_of_mem_take hz)
      omega
    · have hjz : j < zs.length := by omega
      rw [hcell j hjz]
      have e1 : zs.getD j 0 = zs[j] := by rw [List.getD_eq_getElem?_getD, List.getElem?_eq_getElem hjz]; rfl
      have hb := hw16 _ (List.getElem_mem hjz)
      rw [e1]
      congr 2
      rw [List.getD_eq_getElem?_getD, List.getElem?_map, List.getElem?_take, if_pos hj, List.getElem?_eq_getElem hjz]
      show zs[j] = ((zs[j].toNat : Nat) : Int)
      omega
theorem one_of {cs : List Value} {j : Nat} {v : Value} (h : cs[j]? = some v) : (cs.drop j).take 1 = [v] := by
  obtain ⟨hj, e⟩ := List.getElem?_eq_some_iff.1 h
  rw [List.drop_eq_getElem_cons hj, e]
  rfl
/-- The j-th field of a call. -/
theorem act_field {cs : List Value} {xs : List (DataW H × List MemPlace)} {n : Nat} {j : Nat} {t : TypeId}
    (hf : ∀ (i : Nat) (f : Field), actFs[i]? = some f → DataW.trod enc Tryz.prog W 0 (fun _ => true) true n f.type ((cs.drop f.offset).take (Tryz.prog.cellsOf f.type)) = xs[i]?) (hx : xs.length = 6) (hc : cs.length = 6)
    (hj : [(3, 0), (9, 1), (9, 2), (31, 3), (3, 4), (32, 5)][j]? = some (t, j)) (h1 : Tryz.prog.cellsOf t = 1) :
    ∃ v y, cs[j]? = some v ∧ xs[j]? = some y ∧ DataW.trod enc Tryz.prog W 0 (fun _ => true) true n t [v] = some y := by
  have hl : j < 6 := by
    have := (List.getElem?_eq_some_iff.1 hj).1
    simpa using this
  have h2 := congrArg (fun l => l[j]?) act_types
  simp only [hj, List.getElem?_map, Option.map_eq_some_iff, Prod.mk.injEq] at h2
  obtain ⟨f, hf1, hf2, hf3⟩ := h2
  have h3 := hf j f (by rw [← Array.getElem?_toList]; exact hf1)
  rw [hf2, hf3, h1, one_of (List.getElem?_eq_getElem (by omega)), List.getElem?_eq_getElem (by omega)] at h3
  exact ⟨_, _, List.getElem?_eq_getElem (by omega), List.getElem?_eq_getElem (by omega), h3⟩

theorem int_top {n : Int} (h : (Lit.int .i64 n).wf = true) : n ≤ 9223372036854775807 := by
  have h2 : IntKind.i64.max = 9223372036854775807 := rfl
  simp only [Lit.wf, Bool.and_eq_true, decide_eq_true_eq] at h
  omega

theorem weightsAll_mem {P : Program} {e : TypeId} {l : List (DataW H)} {d : DataW H} (hd : d ∈ l) {n : Nat} (hn : n ∈ d.weights P e) : n ∈ DataW.weightsAll P e l := by
  induction l with
  | nil => cases hd
  | cons x r ih =>
    simp only [DataW.weightsAll, List.mem_append]
    rcases List.mem_cons.1 hd with rfl | hd
    · exact .inl hn
    · exact .inr (ih hd)

/-- A slice of calls, opened. -/
theorem acts_of_trod {p : Option Addr} {m c : Nat} {d : DataW H} {ps : List MemPlace} (h : DataW.Trod enc Tryz.prog W 0 (fun _ => true) true 22 (.slice p m c) d ps) (hsz : ∀ n ∈ d.weights Tryz.prog 22, n ≤ reachBytes) :
    ActsAt W p m ∧ m ≤ 140737488355328 := by
  obtain ⟨fuel, h⟩ := h
  have hr := reachBytes_lt
  rcases open_slice Tryz.underlying22 h with ⟨hcs, hx⟩ | ⟨a, len, cap, mm, n, D, Pl, hcs, hb, hl, hm, hmm, hx, hi⟩
  · have e : p = none ∧ m = 0 ∧ c = 0 := by simpa [Value.cells] using hcs
    obtain ⟨rfl, rfl, rfl⟩ := e
    exact ⟨⟨fun i hi => absurd hi (Nat.not_lt_zero _)⟩, by decide⟩
  · have e : p = some a ∧ m = len ∧ c = cap := by simpa [Value.cells] using hcs
    obtain ⟨rfl, rfl, rfl⟩ := e
    simp only [if_true] at hmm
    subst hmm
    simp only [Prod.mk.injEq] at hx
    obtain ⟨rfl, -⟩ := hx
    have hw := hsz _ (by
      simp only [DataW.weights, Tryz.underlying22]
      exact List.mem_cons_self)
    simp only [List.length_map, List.length_range] at hw
    have hm2 : m ≤ 140737488355328 := by
      have h1 := Nat.mul_le_mul_left (m + (mm - m)) rk_bact
      omega
    refine ⟨⟨fun i him => ?_⟩, hm2⟩
    obtain ⟨cs', hc, ht⟩ := hi i (by omega)
    rw [act_cells] at hc
    obtain ⟨xs, n', _, hy, hcl, hxl, hf⟩ := DataW.trod_struct act_fs ht
    rw [act_cells] at hcl
    rw [act_size] at hxl
    obtain ⟨_, _, hat⟩ := World.cells?_some hc
    simp only [Prod.mk.injEq] at hy
    have hones := List.all_eq_true.1 act_ones
    have h1 : ∀ t ∈ [3, 9, 9, 31, 3, 32], Tryz.prog.cellsOf t = 1 := fun t ht => by simpa using hones t ht
    obtain ⟨v0, y0, c0, x0, t0⟩ := act_field (j := 0) hf hxl hcl rfl (h1 _ (by simp))
    obtain ⟨v1, y1, c1, x1, t1⟩ := act_field (j := 1) hf hxl hcl rfl (h1 _ (by simp))
    obtain ⟨v2, y2, c2, x2, t2⟩ := act_field (j := 2) hf hxl hcl rfl (h1 _ (by simp))
    obtain ⟨v3, y3, c3, x3, t3⟩ := act_field (j := 3) hf hxl hcl rfl (h1 _ (by simp))
    obtain ⟨v4, y4, c4, x4, t4⟩ := act_field (j := 4) hf hxl hcl rfl (h1 _ (by simp))
    obtain ⟨v5, y5, c5, x5, t5⟩ := act_field (j := 5) hf hxl hcl rfl (h1 _ (by simp))
    obtain ⟨n0, e0, z0, _⟩ := DataW.trod_int Tryz.underlying3 t0
    obtain ⟨s1, e1, z1, l1⟩ := DataW.trod_string Tryz.underlying9 t1
    obtain ⟨s2, e2, z2, l2⟩ := DataW.trod_string Tryz.underlying9 t2
    obtain ⟨n4, e4, z4, w4⟩ := DataW.trod_int Tryz.underlying3 t4
    obtain rfl : v0 = .int .i64 n0 := by simpa using e0
    obtain rfl : v1 = .string s1 := by simpa using e1
    obtain rfl : v2 = .string s2 := by simpa using e2
    obtain rfl : v4 = .int .i64 n4 := by simpa using e4
    have hDi : D i ∈ (List.range m).map D := List.mem_map.2 ⟨i, List.mem_range.2 him, rfl⟩
    have hw3 : ∀ n ∈ y3.1.weights Tryz.prog 31, n ≤ reachBytes := fun n hn => hsz n (by
      simp only [DataW.weights, Tryz.underlying22]
      refine List.mem_cons_of_mem _ (List.mem_append_left _ (weightsAll_mem hDi ?_))
      rw [hy.1]
      simp only [DataW.weights, act_fs]
      refine DataW.weights_mem_each (j := 3) (t := 31) (d := y3.1) ?_ ?_ n hn
      · have h2 := congrArg (fun l => (l[3]?).map Prod.fst) act_types
        simpa [List.getElem?_map] using h2
      · rw [List.getElem?_map, x3]; rfl)
    obtain ⟨pb, mb, cb, bs, rfl, hb1, hb2, hb3, _⟩ := bytes_of_trod t3 hw3
    obtain ⟨pp, mp, cp, pk, rfl, hp0, hp1, hp2⟩ := picks_of_trod t5
    have hsp : a.spot = none := by
      obtain ⟨cs0, hc0, _⟩ := hi 0 (by omega)
      exact first_cell hc0 (by rw [act_cells]; decide)
    obtain ⟨b, o, sp⟩ := a
    obtain rfl : sp = none := hsp
    have hcell : ∀ j v, cs'[j]? = some v → W.cell? ⟨b, o + i * 6 + j, none⟩ = some v := fun j v hv => by
      have hj : j < 6 := by
        have := (List.getElem?_eq_some_iff.1 hv).1
        omega
      have := hat j hj
      rw [add_at, add_at] at this
      exact this.trans hv
    have k0 := hcell 0 _ c0
    refine ⟨b, o, ⟨n0, s1, s2, pb, mb, cb, bs, n4, pp, mp, cp, pk⟩, rfl, cell_lt k0, ⟨l1, l2, hb1, hb2, hb3, hp0, hp1, hp2, fun h0 a e => ?_, int_top w4⟩, k0, hcell 1 _ c1, hcell 2 _ c2, hcell 3 _ c3, hcell 4 _ c4, hcell 5 _ c5⟩
    obtain ⟨a', e', hc'⟩ := hp2 0 h0
    cases (show pp = some a from e).symm.trans e'
    have := cell_lt hc'
    rwa [add_block'] at this
end
end Go.Proofs.YtjlchphbkmaacaaGreatDoor
