/- A call, as the statements make it. -/
import Derived.Test.YtjlchphbkmaacaaGreatDoorFa
set_option linter.unusedVariables false
set_option linter.unusedSimpArgs false
namespace Go.Proofs.YtjlchphbkmaacaaGreatDoor
open Go.RowKit Go.MapKept Go.ChangeMaps Go.Maps
attribute [local go_sem ↓] Go.wp_at_zero Go.wp_at_succ
open Dk

/-- A call's parts. -/
structure Dk.ActV where
  what : Int
  nm : ByteArray
  ot : ByteArray
  pb : Option Addr
  mb : Nat
  cb : Nat
  bs : List UInt8
  n : Int
  pp : Option Addr
  mp : Nat
  cp : Nat
  picks : List Nat
def Dk.ActV.val (A : ActV) : Value := .agg #[.int .i64 A.what, .string A.nm, .string A.ot, .slice A.pb A.mb A.cb, .int .i64 A.n, .slice A.pp A.mp A.cp]
structure Dk.ActV.Ok (A : ActV) (ρ : Nat → Option Role) (w : World) : Prop where
  nm : A.nm.size ≤ maxLen
  ot : A.ot.size ≤ maxLen
  b : BytesAt w A.pb A.mb A.bs
  bc : A.pb = none → A.cb = 0
  bm : A.mb ≤ 140737488355328
  p : PicksAt ρ w A.pp A.mp A.picks
/-- What it does. -/
def Dk.doF (A : ActV) (s : St) : Int × St :=
  if A.what = 0 then create A.nm.data.toList s
  else if A.what = 1 then append A.nm.data.toList A.bs s
  else if A.what = 2 then sync A.nm.data.toList s
  else if A.what = 3 then rename A.nm.data.toList A.ot.data.toList s
  else if A.what = 4 then truncate A.nm.data.toList A.n s
  else if A.what = 5 then remove A.nm.data.toList s
  else if A.what = 6 then quota A.n s
  else if A.what = 7 then fuse A.n s
  else if A.what = 8 then (0, crash A.picks A.bs s)
  else (0, s)

/-- How memory stands while the copy is turned over. -/
def DoR (ρ : Nat → Option Role) (w : World) (bd : Nat) (s : St) (m : Nat) (p : Option Addr) (wr : World) : Prop :=
  ∃ ρ', Rep ρ' wr bd s ∧ Fr ρ ρ' w wr ∧ (0 < m → ∃ g cur ty, p = some ⟨g, 0, none⟩ ∧ ρ' g = none ∧ w.heap.size ≤ g ∧ wr.heap[g]? = some (.cells cur ty (0, 0)) ∧ ∀ j, j < m → ∃ z : Int, cur[j]? = some (.int .u8 z))
theorem DoR.step {ρ : Nat → Option Role} {w : World} {bd : Nat} {s : St} {m : Nat} {g : Nat} {wr : World} (h : DoR ρ w bd s m (some ⟨g, 0, none⟩) wr) {k : Nat} (hk : k < m) (z : Int) : DoR ρ w bd s m (some ⟨g, 0, none⟩) (wr.setCell ⟨g, k, none⟩ (.int .u8 z)) := by
  obtain ⟨ρ', h1, h2, h3⟩ := h
  obtain ⟨g', cur, ty, e, hρ, hg, hh, hc⟩ := h3 (by omega)
  cases e
  have hlt := (Array.getElem?_eq_some_iff.1 hh).1
  refine ⟨ρ', h1.setCell hρ _, ⟨h2.os, h2.tape, h2.output, by rw [World.size_setCell]; exact h2.size, fun b hb hr => ?_⟩, fun _ => ⟨g, cur.setIfInBounds k (.int .u8 z), ty, rfl, hρ, hg, ?_, fun j hj => ?_⟩⟩
  · rw [Below.heap_setCell wr _ _ _ (show b ≠ g by omega)]
    exact h2.block b hb hr
  · rw [setCell_eq wr g k _ _ _ _ hh, heap_setBlock hlt]
  · by_cases hjk : k = j
    · subst hjk
      obtain ⟨z', hz⟩ := hc k hk
      have := (Array.getElem?_eq_some_iff.1 hz).1
      exact ⟨z, by simp [Array.getElem?_setIfInBounds, this]⟩
    · obtain ⟨z', hz⟩ := hc j hj
      exact ⟨z', by rw [Array.getElem?_setIfInBounds, if_neg hjk]; exact hz⟩
theorem DoR.at {ρ : Nat → Option Role} {w : World} {bd : Nat} {s : St} {m : Nat} {p : Option Addr} {wr : World} (h : DoR ρ w bd s m p wr) {k : Nat} (hk : k < m) : ∃ g z, p = some ⟨g, 0, none⟩ ∧ wr.cell? ⟨g, k, none⟩ = some (.int .u8 z) ∧ wr.frozen? ⟨g, k, none⟩ = false := by
  obtain ⟨ρ', h1, h2, h3⟩ := h
  obtain ⟨g', cur, ty, e, hρ, hg, hh, hc⟩ := h3 (by omega)
  obtain ⟨z, hz⟩ := hc k hk
  exact ⟨g', z, e, (cell_of_block hh).trans hz, frozen_of_block hh⟩
/-- Behind the copy and the disk's own call. -/
theorem DoR.intro {ρ ρ3 : Nat → Option Role} {w w2 w3 : World} {bd : Nat} {s s' : St} {bm : Nat} {blk : Nm → Nat} {dv : Nm → Value} (h : RepX ρ w bd s bm blk dv) {base m : Nat} {q : Option Addr} {d : Nat} {bs : List UInt8} (hown : w2.ownsRow base 5 1 (.slice q m d) bs.length (bs.map encU8)) (hbase : w.heap.size ≤ base) (hm : bs.length = m)
    (hb : Below w.heap.size w w2) (hr : Rep ρ3 w3 bd s') (hf : Fr ρ ρ3 w2 w3) : DoR ρ w bd s' m q w3 := by
  refine ⟨ρ3, hr, (Fr.of_below hb).trans hf, fun hpos => ?_⟩
  obtain ⟨_, ⟨he, hz⟩ | ⟨g, cap, cur, he, hge, hg, hc1, hc2, hcs, hct⟩⟩ := hown
  · omega
  · simp only [Value.slice.injEq] at he
    obtain ⟨rfl, -, -⟩ := he
    have hlt := (Array.getElem?_eq_some_iff.1 hg).1
    have hρ := h.fresh (Nat.le_trans hbase hge)
    obtain ⟨e1, e2⟩ := hf.block g hlt hρ
    refine ⟨g, cur, _, rfl, e2, Nat.le_trans hbase hge, e1.trans hg, fun j hj => ⟨(bs.getD j 0).toNat, ?_⟩⟩
    have e3 : cur.toList[j]? = (bs.map encU8)[j]? := by
      rw [← hct, List.getElem?_take, if_pos (by omega)]
    have hjl : j < bs.length := by omega
    rw [← Array.getElem?_toList, e3, List.getElem?_map, List.getElem?_eq_getElem hjl, List.getD_eq_getElem?_getD, List.getElem?_eq_getElem hjl]
    rfl

theorem own_bytes {w : World} {base m c : Nat} {p : Option Addr} {bs : List UInt8} (h : w.ownsRow base 5 1 (.slice p m c) bs.length (bs.map encU8)) : BytesAt w p m bs := BytesAt.of_own (base := base) h
theorem bytes_torn {w : World} {m : Nat} {p : Option Addr} {bs : List UInt8} (h : BytesAt w p m bs) {j : Nat} (hj : j < m) : ∃ a, p = some a ∧ w.cell? (a.add j) = some (.int .u8 (bs.getD j 0).toNat) := by
  cases p with
  | none => have := h.nil rfl; omega
  | some a =>
    have hl := h.len
    refine ⟨a, rfl, h.cells a rfl j _ ?_⟩
    rw [List.getElem?_map, List.getElem?_eq_getElem (by omega), List.getD_eq_getElem?_getD, List.getElem?_eq_getElem (by omega)]
    rfl
theorem own_none {w : World} {base m c : Nat} {p : Option Addr} {e : TypeId} {n : Nat} {xs : List Value} (h : w.ownsRow base e 1 (.slice p m c) n xs) : p = none → c = 0 := by
  rintro rfl
  obtain ⟨_, ⟨he, _⟩ | ⟨g, cap, cur, he, _⟩⟩ := h
  · simp at he
    exact he.2
  · simp at he

set_option maxRecDepth 100000 in
set_option maxHeartbeats 2000000 in
theorem do_any {ρ : Nat → Option Role} {w : World} {bd : Nat} {s : St} {bm : Nat} {blk : Nm → Nat} {dv : Nm → Value} (h : RepX ρ w bd s bm blk dv) (hg : Fine s) (A : ActV) (hA : A.Ok ρ w) :
    Calls Tryz.prog 7 #[.pointer (some ⟨bd, 0, none⟩), A.val] w (MethPost ρ w bd (doF A s)) := by
  have HR := Lib.hid h
  have HG := Lib.hid hg
  have HA := Lib.hid hA
  clear h hg hA
  obtain ⟨what, nm, ot, pb, mb, cb, bs, n, pp, mp, cp, picks⟩ := A
  unfold ActV.val
  dsimp only
  go_enter Tryz.func7, Tryz.ntmps7
  go_wp2_with fail
  have hb0 : Below w.heap.size w (w.alloc (.cells #[Value.int IntKind.i64 what, Value.string nm, Value.string ot, Value.slice pb mb cb, Value.int IntKind.i64 n, Value.slice pp mp cp] 34)) := bel_alloc (Below.refl _ _) _
  have hbox := allocs_at [.cells #[Value.int IntKind.i64 what, Value.string nm, Value.string ot, Value.slice pb mb cb, Value.int IntKind.i64 n, Value.slice pp mp cp] 34] w 0 _ rfl
  have hb' : BytesAt (w.alloc (.cells #[Value.int IntKind.i64 what, Value.string nm, Value.string ot, Value.slice pb mb cb, Value.int IntKind.i64 n, Value.slice pp mp cp] 34)) pb mb bs := HA.out.b.keep fun a _ hlt => hb0.block _ hlt
  refine (own_any _ pb mb cb bs hb' HA.out.bc HA.out.bm).mono ?_
  rintro e w2 ⟨q, d, rfl, hown, hb1⟩
  have hbox2 := (hb1.block w.heap.size (Array.getElem?_eq_some_iff.1 hbox).1).trans hbox
  have k0 : w2.cell? ⟨w.heap.size, 0, none⟩ = some (.int .i64 what) := cell_of_block (i := 0) hbox2
  have k1 : w2.cell? ⟨w.heap.size, 1, none⟩ = some (.string nm) := cell_of_block (i := 1) hbox2
  have k2 : w2.cell? ⟨w.heap.size, 2, none⟩ = some (.string ot) := cell_of_block (i := 2) hbox2
  have k4 : w2.cell? ⟨w.heap.size, 4, none⟩ = some (.int .i64 n) := cell_of_block (i := 4) hbox2
  have k5 : w2.cell? ⟨w.heap.size, 5, none⟩ = some (.slice pp mp cp) := cell_of_block (i := 5) hbox2
  have hbl : Below w.heap.size w w2 := hb0.trans (hb1.mono hb0.size)
  have HB := Lib.hid hbl
  have H2 := Lib.hid (HR.out.below hbl)
  have HO := Lib.hid hown
  have HP := Lib.hid (show PicksAt ρ w2 pp mp picks from ⟨HA.out.p.len, HA.out.p.small, HA.out.p.fr (Fr.of_below hbl), HA.out.p.out⟩)
  have HQ := Lib.hid (own_bytes HO.out)
  have hqd : q = none → d = 0 := own_none HO.out
  have HD := Lib.hid hqd
  have HBL := Lib.hid HA.out.b.len
  have HBM := Lib.hid HA.out.bm
  have HFR := Lib.hid (show ∀ a, q = some a → ρ a.block = none from fun a e => HR.out.fresh (by
    subst e
    have := (HO.out.lt a.block rfl).1
    rw [World.size_alloc] at this
    omega))
  have HTC := Lib.hid (show ∀ j, j < mb → ∃ a, q = some a ∧ w2.cell? (a.add j) = some (.int .u8 (bs.getD j 0).toNat) from fun j hj => bytes_torn HQ.out hj)
  clear hb0 hbox hb' hown hb1 hbox2 hbl hqd
  by_cases h0 : what = 0
  · subst h0
    have HDO := Lib.hid (show doF ⟨0, nm, ot, pb, mb, cb, bs, n, pp, mp, cp, picks⟩ s = create nm.data.toList s from rfl)
    go_wp2_with fail
    refine (create_any H2.out HG.out nm HA.out.nm).mono ?_
    rintro e w3 ⟨rfl, ρ3, hr3, hf3⟩
    generalize hr : create nm.data.toList s = r at *
    have HD0 := Lib.hid (DoR.intro HR.out HO.out (by rw [World.size_alloc]; omega) HBL.out HB.out hr3 hf3)
    clear hr3 hf3 hr
    clear k0 k1 k2 k4 k5
    go_wp2_with fail
    go_loopw [75] (fun i wr => ∃ k : Nat, k ≤ mb ∧ i = .int .i64 k ∧ DoR ρ w bd r.2 mb q wr) (fun i _ => mb - (intOf i).toNat)
    case atStart => exact ⟨0, Nat.zero_le _, rfl, HD0.out⟩
    case round =>
      obtain ⟨k, hk, rfl, hrr⟩ := hrel
      have HRR := Lib.hid hrr
      have hmb := HBM.out
      clear hrr
      by_cases hlt : k < mb
      · obtain ⟨g, z, rfl, hc, hf⟩ := HRR.out.at hlt
        go_wp2_with fail
        go_roundw
        case rel => exact ⟨k + 1, by omega, by go_num, HRR.out.step hlt _⟩
        case measure => simp [intOf]; omega
      · obtain rfl : k = mb := by omega
        go_wp2_with fail
        go_ret
        obtain ⟨ρ', h1, h2, _⟩ := HRR.out
        rw [HDO.out]
        exact ⟨rfl, ρ', h1, h2⟩
  by_cases h1 : what = 1
  · subst h1
    have HDO := Lib.hid (show doF ⟨1, nm, ot, pb, mb, cb, bs, n, pp, mp, cp, picks⟩ s = append nm.data.toList bs s from rfl)
    go_wp2_with fail
    refine (append_any H2.out HG.out nm HA.out.nm q mb d bs HQ.out HD.out (fun a e => HFR.out a e) HBM.out).mono ?_
    rintro e w3 ⟨rfl, ρ3, hr3, hf3⟩
    generalize hr : append nm.data.toList bs s = r at *
    have HD0 := Lib.hid (DoR.intro HR.out HO.out (by rw [World.size_alloc]; omega) HBL.out HB.out hr3 hf3)
    clear hr3 hf3 hr
    clear k0 k1 k2 k4 k5
    go_wp2_with fail
    go_loopw [75] (fun i wr => ∃ k : Nat, k ≤ mb ∧ i = .int .i64 k ∧ DoR ρ w bd r.2 mb q wr) (fun i _ => mb - (intOf i).toNat)
    case atStart => exact ⟨0, Nat.zero_le _, rfl, HD0.out⟩
    case round =>
      obtain ⟨k, hk, rfl, hrr⟩ := hrel
      have HRR := Lib.hid hrr
      have hmb := HBM.out
      clear hrr
      by_cases hlt : k < mb
      · obtain ⟨g, z, rfl, hc, hf⟩ := HRR.out.at hlt
        go_wp2_with fail
        go_roundw
        case rel => exact ⟨k + 1, by omega, by go_num, HRR.out.step hlt _⟩
        case measure => simp [intOf]; omega
      · obtain rfl : k = mb := by omega
        go_wp2_with fail
        go_ret
        obtain ⟨ρ', h1, h2, _⟩ := HRR.out
        rw [HDO.out]
        exact ⟨rfl, ρ', h1, h2⟩
  by_cases h2 : what = 2
  · subst h2
    have HDO := Lib.hid (show doF ⟨2, nm, ot, pb, mb, cb, bs, n, pp, mp, cp, picks⟩ s = sync nm.data.toList s from rfl)
    go_wp2_with fail
    refine (sync_any H2.out HG.out nm HA.out.nm).mono ?_
    rintro e w3 ⟨rfl, ρ3, hr3, hf3⟩
    generalize hr : sync nm.data.toList s = r at *
    have HD0 := Lib.hid (DoR.intro HR.out HO.out (by rw [World.size_alloc]; omega) HBL.out HB.out hr3 hf3)
    clear hr3 hf3 hr
    clear k0 k1 k2 k4 k5
    go_wp2_with fail
    go_loopw [75] (fun i wr => ∃ k : Nat, k ≤ mb ∧ i = .int .i64 k ∧ DoR ρ w bd r.2 mb q wr) (fun i _ => mb - (intOf i).toNat)
    case atStart => exact ⟨0, Nat.zero_le _, rfl, HD0.out⟩
    case round =>
      obtain ⟨k, hk, rfl, hrr⟩ := hrel
      have HRR := Lib.hid hrr
      have hmb := HBM.out
      clear hrr
      by_cases hlt : k < mb
      · obtain ⟨g, z, rfl, hc, hf⟩ := HRR.out.at hlt
        go_wp2_with fail
        go_roundw
        case rel => exact ⟨k + 1, by omega, by go_num, HRR.out.step hlt _⟩
        case measure => simp [intOf]; omega
      · obtain rfl : k = mb := by omega
        go_wp2_with fail
        go_ret
        obtain ⟨ρ', h1, h2, _⟩ := HRR.out
        rw [HDO.out]
        exact ⟨rfl, ρ', h1, h2⟩
  by_cases h3 : what = 3
  · subst h3
    have HDO := Lib.hid (show doF ⟨3, nm, ot, pb, mb, cb, bs, n, pp, mp, cp, picks⟩ s = rename nm.data.toList ot.data.toList s from rfl)
    go_wp2_with fail
    refine (rename_any H2.out HG.out nm ot HA.out.nm HA.out.ot).mono ?_
    rintro e w3 ⟨rfl, ρ3, hr3, hf3⟩
    generalize hr : rename nm.data.toList ot.data.toList s = r at *
    have HD0 := Lib.hid (DoR.intro HR.out HO.out (by rw [World.size_alloc]; omega) HBL.out HB.out hr3 hf3)
    clear hr3 hf3 hr
    clear k0 k1 k2 k4 k5
    go_wp2_with fail
    go_loopw [75] (fun i wr => ∃ k : Nat, k ≤ mb ∧ i = .int .i64 k ∧ DoR ρ w bd r.2 mb q wr) (fun i _ => mb - (intOf i).toNat)
    case atStart => exact ⟨0, Nat.zero_le _, rfl, HD0.out⟩
    case round =>
      obtain ⟨k, hk, rfl, hrr⟩ := hrel
      have HRR := Lib.hid hrr
      have hmb := HBM.out
      clear hrr
      by_cases hlt : k < mb
      · obtain ⟨g, z, rfl, hc, hf⟩ := HRR.out.at hlt
        go_wp2_with fail
        go_roundw
        case rel => exact ⟨k + 1, by omega, by go_num, HRR.out.step hlt _⟩
        case measure => simp [intOf]; omega
      · obtain rfl : k = mb := by omega
        go_wp2_with fail
        go_ret
        obtain ⟨ρ', h1, h2, _⟩ := HRR.out
        rw [HDO.out]
        exact ⟨rfl, ρ', h1, h2⟩
  by_cases h4 : what = 4
  · subst h4
    have HDO := Lib.hid (show doF ⟨4, nm, ot, pb, mb, cb, bs, n, pp, mp, cp, picks⟩ s = truncate nm.data.toList n s from rfl)
    go_wp2_with fail
    refine (truncate_any H2.out HG.out nm HA.out.nm n).mono ?_
    rintro e w3 ⟨rfl, ρ3, hr3, hf3⟩
    generalize hr : truncate nm.data.toList n s = r at *
    have HD0 := Lib.hid (DoR.intro HR.out HO.out (by rw [World.size_alloc]; omega) HBL.out HB.out hr3 hf3)
    clear hr3 hf3 hr
    clear k0 k1 k2 k4 k5
    go_wp2_with fail
    go_loopw [75] (fun i wr => ∃ k : Nat, k ≤ mb ∧ i = .int .i64 k ∧ DoR ρ w bd r.2 mb q wr) (fun i _ => mb - (intOf i).toNat)
    case atStart => exact ⟨0, Nat.zero_le _, rfl, HD0.out⟩
    case round =>
      obtain ⟨k, hk, rfl, hrr⟩ := hrel
      have HRR := Lib.hid hrr
      have hmb := HBM.out
      clear hrr
      by_cases hlt : k < mb
      · obtain ⟨g, z, rfl, hc, hf⟩ := HRR.out.at hlt
        go_wp2_with fail
        go_roundw
        case rel => exact ⟨k + 1, by omega, by go_num, HRR.out.step hlt _⟩
        case measure => simp [intOf]; omega
      · obtain rfl : k = mb := by omega
        go_wp2_with fail
        go_ret
        obtain ⟨ρ', h1, h2, _⟩ := HRR.out
        rw [HDO.out]
        exact ⟨rfl, ρ', h1, h2⟩
  by_cases h5 : what = 5
  · subst h5
    have HDO := Lib.hid (show doF ⟨5, nm, ot, pb, mb, cb, bs, n, pp, mp, cp, picks⟩ s = remove nm.data.toList s from rfl)
    go_wp2_with fail
    refine (remove_any H2.out HG.out nm HA.out.nm).mono ?_
    rintro e w3 ⟨rfl, ρ3, hr3, hf3⟩
    generalize hr : remove nm.data.toList s = r at *
    have HD0 := Lib.hid (DoR.intro HR.out HO.out (by rw [World.size_alloc]; omega) HBL.out HB.out hr3 hf3)
    clear hr3 hf3 hr
    clear k0 k1 k2 k4 k5
    go_wp2_with fail
    go_loopw [75] (fun i wr => ∃ k : Nat, k ≤ mb ∧ i = .int .i64 k ∧ DoR ρ w bd r.2 mb q wr) (fun i _ => mb - (intOf i).toNat)
    case atStart => exact ⟨0, Nat.zero_le _, rfl, HD0.out⟩
    case round =>
      obtain ⟨k, hk, rfl, hrr⟩ := hrel
      have HRR := Lib.hid hrr
      have hmb := HBM.out
      clear hrr
      by_cases hlt : k < mb
      · obtain ⟨g, z, rfl, hc, hf⟩ := HRR.out.at hlt
        go_wp2_with fail
        go_roundw
        case rel => exact ⟨k + 1, by omega, by go_num, HRR.out.step hlt _⟩
        case measure => simp [intOf]; omega
      · obtain rfl : k = mb := by omega
        go_wp2_with fail
        go_ret
        obtain ⟨ρ', h1, h2, _⟩ := HRR.out
        rw [HDO.out]
        exact ⟨rfl, ρ', h1, h2⟩
  by_cases h6 : what = 6
  · subst h6
    have HDO := Lib.hid (show doF ⟨6, nm, ot, pb, mb, cb, bs, n, pp, mp, cp, picks⟩ s = quota n s from rfl)
    go_wp2_with fail
    refine (quota_any H2.out n).mono ?_
    rintro e w3 ⟨rfl, ρ3, hr3, hf3⟩
    generalize hr : quota n s = r at *
    have HD0 := Lib.hid (DoR.intro HR.out HO.out (by rw [World.size_alloc]; omega) HBL.out HB.out hr3 hf3)
    clear hr3 hf3 hr
    clear k0 k1 k2 k4 k5
    go_wp2_with fail
    go_loopw [75] (fun i wr => ∃ k : Nat, k ≤ mb ∧ i = .int .i64 k ∧ DoR ρ w bd r.2 mb q wr) (fun i _ => mb - (intOf i).toNat)
    case atStart => exact ⟨0, Nat.zero_le _, rfl, HD0.out⟩
    case round =>
      obtain ⟨k, hk, rfl, hrr⟩ := hrel
      have HRR := Lib.hid hrr
      have hmb := HBM.out
      clear hrr
      by_cases hlt : k < mb
      · obtain ⟨g, z, rfl, hc, hf⟩ := HRR.out.at hlt
        go_wp2_with fail
        go_roundw
        case rel => exact ⟨k + 1, by omega, by go_num, HRR.out.step hlt _⟩
        case measure => simp [intOf]; omega
      · obtain rfl : k = mb := by omega
        go_wp2_with fail
        go_ret
        obtain ⟨ρ', h1, h2, _⟩ := HRR.out
        rw [HDO.out]
        exact ⟨rfl, ρ', h1, h2⟩
  by_cases h7 : what = 7
  · subst h7
    have HDO := Lib.hid (show doF ⟨7, nm, ot, pb, mb, cb, bs, n, pp, mp, cp, picks⟩ s = fuse n s from rfl)
    go_wp2_with fail
    refine (fuse_any H2.out n).mono ?_
    rintro e w3 ⟨rfl, ρ3, hr3, hf3⟩
    generalize hr : fuse n s = r at *
    have HD0 := Lib.hid (DoR.intro HR.out HO.out (by rw [World.size_alloc]; omega) HBL.out HB.out hr3 hf3)
    clear hr3 hf3 hr
    clear k0 k1 k2 k4 k5
    go_wp2_with fail
    go_loopw [75] (fun i wr => ∃ k : Nat, k ≤ mb ∧ i = .int .i64 k ∧ DoR ρ w bd r.2 mb q wr) (fun i _ => mb - (intOf i).toNat)
    case atStart => exact ⟨0, Nat.zero_le _, rfl, HD0.out⟩
    case round =>
      obtain ⟨k, hk, rfl, hrr⟩ := hrel
      have HRR := Lib.hid hrr
      have hmb := HBM.out
      clear hrr
      by_cases hlt : k < mb
      · obtain ⟨g, z, rfl, hc, hf⟩ := HRR.out.at hlt
        go_wp2_with fail
        go_roundw
        case rel => exact ⟨k + 1, by omega, by go_num, HRR.out.step hlt _⟩
        case measure => simp [intOf]; omega
      · obtain rfl : k = mb := by omega
        go_wp2_with fail
        go_ret
        obtain ⟨ρ', h1, h2, _⟩ := HRR.out
        rw [HDO.out]
        exact ⟨rfl, ρ', h1, h2⟩
  by_cases h8 : what = 8
  · subst h8
    have HDO := Lib.hid (show doF ⟨8, nm, ot, pb, mb, cb, bs, n, pp, mp, cp, picks⟩ s = (0, crash picks bs s) from rfl)
    go_wp2_with fail
    refine (crash_any H2.out HG.out pp mp cp picks HP.out q mb d bs ⟨HQ.out.len, fun j hj => HTC.out j hj, fun _ a e => HFR.out a e⟩).mono ?_
    rintro e w3 ⟨rfl, ρ3, hr3, hf3⟩
    generalize hr : ((0, crash picks bs s) : Int × St) = r at HDO
    have hz : r.1 = 0 := by rw [← hr]
    have HZ := Lib.hid hz
    replace hr3 : Rep ρ3 w3 bd r.2 := by rw [← hr]; exact hr3
    have HD0 := Lib.hid (DoR.intro HR.out HO.out (by rw [World.size_alloc]; omega) HBL.out HB.out hr3 hf3)
    clear hr3 hf3 hr hz
    clear k0 k1 k2 k4 k5
    go_wp2_with fail
    go_loopw [75] (fun i wr => ∃ k : Nat, k ≤ mb ∧ i = .int .i64 k ∧ DoR ρ w bd r.2 mb q wr) (fun i _ => mb - (intOf i).toNat)
    case atStart => exact ⟨0, Nat.zero_le _, rfl, HD0.out⟩
    case round =>
      obtain ⟨k, hk, rfl, hrr⟩ := hrel
      have HRR := Lib.hid hrr
      have hmb := HBM.out
      clear hrr
      by_cases hlt : k < mb
      · obtain ⟨g, z, rfl, hc, hf⟩ := HRR.out.at hlt
        go_wp2_with fail
        go_roundw
        case rel => exact ⟨k + 1, by omega, by go_num, HRR.out.step hlt _⟩
        case measure => simp [intOf]; omega
      · obtain rfl : k = mb := by omega
        go_wp2_with fail
        go_ret
        obtain ⟨ρ', h1, h2, _⟩ := HRR.out
        rw [HDO.out]
        exact ⟨by rw [HZ.out]; rfl, ρ', h1, h2⟩
  have HDO := Lib.hid (show doF ⟨what, nm, ot, pb, mb, cb, bs, n, pp, mp, cp, picks⟩ s = (0, s) by simp [doF, h0, h1, h2, h3, h4, h5, h6, h7, h8])
  have n0 : (what == 0) = false := by simpa using h0
  have n1 : (what == 1) = false := by simpa using h1
  have n2 : (what == 2) = false := by simpa using h2
  have n3 : (what == 3) = false := by simpa using h3
  have n4 : (what == 4) = false := by simpa using h4
  have n5 : (what == 5) = false := by simpa using h5
  have n6 : (what == 6) = false := by simpa using h6
  have n7 : (what == 7) = false := by simpa using h7
  have n8 : (what == 8) = false := by simpa using h8
  clear h0 h1 h2 h3 h4 h5 h6 h7 h8
  generalize hr : ((0, s) : Int × St) = r at HDO
  have hz : r.1 = 0 := by rw [← hr]
  have HZ := Lib.hid hz
  have HD0 := Lib.hid (DoR.intro HR.out HO.out (by rw [World.size_alloc]; omega) HBL.out HB.out (show Rep ρ w2 bd r.2 by rw [← hr]; exact H2.out.rep) (Fr.refl ρ w2))
  clear hr hz
  go_wp2_with fail
  go_loopw [75] (fun i wr => ∃ k : Nat, k ≤ mb ∧ i = .int .i64 k ∧ DoR ρ w bd r.2 mb q wr) (fun i _ => mb - (intOf i).toNat)
  case atStart => exact ⟨0, Nat.zero_le _, rfl, HD0.out⟩
  case round =>
    obtain ⟨k, hk, rfl, hrr⟩ := hrel
    have HRR := Lib.hid hrr
    have hmb := HBM.out
    clear hrr
    by_cases hlt : k < mb
    · obtain ⟨g, z, rfl, hc, hf⟩ := HRR.out.at hlt
      go_wp2_with fail
      go_roundw
      case rel => exact ⟨k + 1, by omega, by go_num, HRR.out.step hlt _⟩
      case measure => simp [intOf]; omega
    · obtain rfl : k = mb := by omega
      go_wp2_with fail
      go_ret
      obtain ⟨ρ', h1, h2, _⟩ := HRR.out
      rw [HDO.out]
      exact ⟨by rw [HZ.out]; rfl, ρ', h1, h2⟩
end Go.Proofs.YtjlchphbkmaacaaGreatDoor
