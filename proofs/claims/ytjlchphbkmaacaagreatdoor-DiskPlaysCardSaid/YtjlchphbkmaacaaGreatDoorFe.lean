/- awake: what the document's examples say. -/
import Derived.Test.YtjlchphbkmaacaaGreatDoorFd
import Derived.Lib.SlBytesConst
set_option linter.unusedVariables false
set_option linter.unusedSimpArgs false
namespace Go.Proofs.YtjlchphbkmaacaaGreatDoor
open Go.RowKit Go.MapKept Go.ChangeMaps Go.Maps
attribute [local go_sem ↓] Go.wp_at_zero Go.wp_at_succ
open Dk

theorem make5 (u : World) : (Instr.makeSlice 31 (.int .i64 5) (.int .i64 5)).run Tryz.prog u = .ok (.slice (some ⟨u.heap.size, 0, none⟩) 5 5) (u.alloc (.cells #[.int .u8 0, .int .u8 0, .int .u8 0, .int .u8 0, .int .u8 0] 5)) := by
  obtain ⟨i0, hi, hz0, hz1, hz2⟩ := info_parts (show (Tryz.prog.info? 5).map (fun i => (i.zero, i.size, i.bytes)) = some (some (.int .u8 0), 1, 1) by kernel_rfl)
  have h := run_make (P := Tryz.prog) u 31 5 i0 (.int .u8 0) Tryz.underlying31 hi hz0 .i64 .i64 5 5 (by omega) (Int.le_refl _) (by rw [hz2]; omega) (by omega)
  simp only [hz1, Value.cells] at h
  rw [show madeCells #[Value.int IntKind.u8 0] (Int.toNat 5 * 1) = #[.int .u8 0, .int .u8 0, .int .u8 0, .int .u8 0, .int .u8 0] by kernel_rfl] at h
  exact h
theorem bytes_block {w : World} {b : Nat} {cs : Array Value} {ty : TypeId} {fr : Nat × Nat} {bs : List UInt8} {m : Nat} (h : w.heap[b]? = some (.cells cs ty fr)) (hc : cs.toList = bs.map encU8) (hm : bs.length = m) : BytesAt w (some ⟨b, 0, none⟩) m bs :=
  ⟨hm, (fun e => by cases e), fun a e j u hu => by
    cases e
    have e1 : (⟨b, 0, none⟩ : Addr).add j = ⟨b, j, none⟩ := by
      unfold Addr.add
      split
      · rename_i h0; rw [h0]
      · simp
    rw [e1, cell_of_block h, ← Array.getElem?_toList, hc]
    exact hu⟩

theorem picks_block {ρ : Nat → Option Role} {w : World} {b : Nat} {cs : Array Value} {ty : TypeId} {fr : Nat × Nat} {ps : List Nat} {m : Nat} (h : w.heap[b]? = some (.cells cs ty fr)) (hρ : ρ b = none) (hc : cs.toList = ps.map fun x => .int .u16 x) (hm : ps.length = m) (hs : ∀ x ∈ ps, x < 65536) : PicksAt ρ w (some ⟨b, 0, none⟩) m ps :=
  ⟨hm, hs, fun j hj => ⟨_, rfl, by
    have e1 : (⟨b, 0, none⟩ : Addr).add j = ⟨b, j, none⟩ := by
      unfold Addr.add
      split
      · rename_i h0; rw [h0]
      · simp
    have hjl : j < ps.length := by omega
    rw [e1, cell_of_block h, ← Array.getElem?_toList, hc, List.getElem?_map, List.getElem?_eq_getElem hjl, List.getD_eq_getElem?_getD, List.getElem?_eq_getElem hjl]
    rfl⟩, fun _ a e => by cases e; exact hρ⟩
theorem torn_block {ρ : Nat → Option Role} {w : World} {b : Nat} {cs : Array Value} {ty : TypeId} {fr : Nat × Nat} {ts : List UInt8} {m : Nat} (h : w.heap[b]? = some (.cells cs ty fr)) (hρ : ρ b = none) (hc : cs.toList = ts.map encU8) (hm : ts.length = m) : TornAt ρ w (some ⟨b, 0, none⟩) m ts :=
  ⟨hm, fun j hj => bytes_torn (bytes_block h hc hm) hj, fun _ a e => by cases e; exact hρ⟩

theorem Dk.BytesAt.bin {w : World} {p : Option Addr} {m : Nat} {bs : List UInt8} (h : BytesAt w p m bs) : Lib.BytesIn w p m (bs.map fun c => (c.toNat : Int)) := by
  cases p with
  | none => rw [h.nil rfl]; exact Lib.BytesIn.nil _ _ _
  | some a =>
    refine Lib.BytesIn.of_cells fun i hi => ?_
    obtain ⟨a', e, hc⟩ := bytes_torn h hi
    cases e
    rw [hc]
    have hl := h.len
    rw [List.getD_eq_getElem?_getD, List.getD_eq_getElem?_getD, List.getElem?_map, List.getElem?_eq_getElem (by omega)]
    rfl

theorem strs_block {w : World} {b : Nat} {cs : Array Value} {ty : TypeId} {fr : Nat × Nat} {ss : List Nm} (h : w.heap[b]? = some (.cells cs ty fr)) (hc : cs.toList = ss.map fun x => .string ⟨x.toArray⟩) : StrsAt w (some ⟨b, 0, none⟩) ss :=
  ⟨fun j x hx => ⟨b, rfl, by rw [cell_of_block h, ← Array.getElem?_toList, hc, List.getElem?_map, hx]; rfl⟩⟩

def AwakePost (w : World) (e : Ending) (w' : World) : Prop := e = .returned (.bool true) ∧ Below w.heap.size w w'

set_option maxRecDepth 100000 in
set_option maxHeartbeats 4000000 in
theorem awake_any (w : World) : Calls Tryz.prog 4 #[] w (AwakePost w) := by
  go_enter Tryz.func4, Tryz.ntmps4
  go_wp2_with fail
  refine (new_any 9 w).mono ?_
  rintro e w1 hp
  unfold NewPost at hp
  rw [if_pos (by decide)] at hp
  obtain ⟨ρ1, bd, rfl, hr1, hρ, hb1⟩ := hp
  have HA := Lib.hid (show At w bd (fresh 9) w1 from ⟨ρ1, hr1, hρ, hb1⟩)
  clear hr1 hρ hb1
  go_wp2_with fail
  refine (HA.out.call (Below.refl _ _) (fun ρ bm blk dv _ hx => create_any hx (fine0 (by decide) (by decide)) ⟨#[97]⟩ (by decide)) aw_1).mono ?_
  clear HA
  rintro e w2 ⟨rfl, ha⟩
  have HA := Lib.hid ha
  clear ha
  have HM := Lib.hid make5
  have hmk := make5
  go_wp2_with fail
  clear hmk
  have hb := bel_alloc (Below.refl w2.heap.size w2) (.cells #[.int .u8 0, .int .u8 0, .int .u8 0, .int .u8 0, .int .u8 0] 5)
  have hc : (w2.alloc (.cells #[.int .u8 0, .int .u8 0, .int .u8 0, .int .u8 0, .int .u8 0] 5)).heap[w2.heap.size]? = _ := allocs_at [.cells #[.int .u8 0, .int .u8 0, .int .u8 0, .int .u8 0, .int .u8 0] 5] w2 0 _ rfl
  refine (HA.out.call hb (fun ρ bm blk dv hfr hx => append_any hx fine1 ⟨#[97]⟩ (by decide) (some ⟨w2.heap.size, 0, none⟩) 5 5 [0, 0, 0, 0, 0] (bytes_block hc rfl rfl) (fun e => by cases e) (fun a e => by cases e; exact hfr _ (Nat.le_refl _)) (by decide)) aw_2).mono ?_
  clear HA hb hc
  rintro e w3 ⟨rfl, ha⟩
  have HA := Lib.hid ha
  clear ha
  have hmk := make5
  go_wp2_with fail
  clear hmk
  have hb := bel_alloc (Below.refl w3.heap.size w3) (.cells #[.int .u8 0, .int .u8 0, .int .u8 0, .int .u8 0, .int .u8 0] 5)
  have hc : (w3.alloc (.cells #[.int .u8 0, .int .u8 0, .int .u8 0, .int .u8 0, .int .u8 0] 5)).heap[w3.heap.size]? = _ := allocs_at [.cells #[.int .u8 0, .int .u8 0, .int .u8 0, .int .u8 0, .int .u8 0] 5] w3 0 _ rfl
  refine (HA.out.call hb (fun ρ bm blk dv hfr hx => append_any hx fine2 ⟨#[97]⟩ (by decide) (some ⟨w3.heap.size, 0, none⟩) 5 5 [0, 0, 0, 0, 0] (bytes_block hc rfl rfl) (fun e => by cases e) (fun a e => by cases e; exact hfr _ (Nat.le_refl _)) (by decide)) aw_2b).mono ?_
  clear HA hb hc
  rintro e w4 ⟨rfl, ha⟩
  have HA := Lib.hid ha
  clear ha
  go_wp2_with fail
  refine (HA.out.call (Below.refl _ _) (fun ρ bm blk dv _ hx => sync_any hx fine2 ⟨#[97]⟩ (by decide)) aw_3).mono ?_
  clear HA
  rintro e w5 ⟨rfl, ha⟩
  have HA := Lib.hid ha
  clear ha
  have hcv := Lib.run_convert_bytes_const (P := Tryz.prog) w5 31 5 #[.int .u8 120, .int .u8 121] 2 2 Tryz.underlying31 Tryz.underlying5
  go_wp2_with fail
  clear hcv
  have hb := bel_alloc (Below.refl w5.heap.size w5) (.cells #[.int .u8 120, .int .u8 121] 5 (2, 3))
  have hc : (w5.alloc (.cells #[.int .u8 120, .int .u8 121] 5 (2, 3))).heap[w5.heap.size]? = _ := allocs_at [.cells #[.int .u8 120, .int .u8 121] 5 (2, 3)] w5 0 _ rfl
  refine (HA.out.call hb (fun ρ bm blk dv hfr hx => append_any hx fine3 ⟨#[97]⟩ (by decide) (some ⟨w5.heap.size, 0, none⟩) 2 2 [120, 121] (bytes_block hc rfl rfl) (fun e => by cases e) (fun a e => by cases e; exact hfr _ (Nat.le_refl _)) (by decide)) aw_4).mono ?_
  clear HA hb hc
  rintro e w6 ⟨rfl, ha⟩
  have HA := Lib.hid ha
  clear ha
  go_wp2_with fail
  refine (HA.out.look (fun ρ bm blk dv hx => loose_any hx fine4 ⟨#[97]⟩ (by decide))).mono ?_
  rintro e w7 ⟨rfl, hb⟩
  replace HA := Lib.hid (HA.out.below hb)
  clear hb
  have hl : ((loose (⟨#[97]⟩ : ByteArray).data.toList aw4 : Nat) : Int) = 2 := by rfl
  rw [hl]
  clear hl
  go_wp2_with fail
  have hb := bel_alloc (bel_alloc (Below.refl w7.heap.size w7) (.cells #[.int .u16 7] 50)) (.cells #[.int .u8 255] 5)
  have hc : ((w7.alloc (.cells #[.int .u16 7] 50)).alloc (.cells #[.int .u8 255] 5)).heap[w7.heap.size]? = _ := allocs_at [.cells #[.int .u16 7] 50, .cells #[.int .u8 255] 5] w7 0 _ rfl
  have hc2 : ((w7.alloc (.cells #[.int .u16 7] 50)).alloc (.cells #[.int .u8 255] 5)).heap[w7.heap.size + 1]? = _ := allocs_at [.cells #[.int .u16 7] 50, .cells #[.int .u8 255] 5] w7 1 _ rfl
  refine (HA.out.call hb (fun ρ bm blk dv hfr hx => crash_any hx fine4 (some ⟨w7.heap.size, 0, none⟩) 1 1 [7] (picks_block hc (hfr _ (Nat.le_refl _)) rfl rfl (by decide)) (some ⟨w7.heap.size + 1, 0, none⟩) 1 1 [255] (torn_block hc2 (hfr _ (Nat.le_succ _)) rfl rfl)) (congrArg (Prod.mk (0 : Int)) aw_5)).mono ?_
  clear HA hb hc hc2
  rintro e w8 ⟨rfl, ha⟩
  have HA := Lib.hid ha
  clear ha
  go_wp2_with fail
  refine (HA.out.look (fun ρ bm blk dv hx => read_any hx fine5 ⟨#[97]⟩ (by decide))).mono ?_
  rintro e w9 ⟨v, rfl, hrow, hb⟩
  replace HA := Lib.hid (HA.out.below hb)
  clear hb
  have hl : readE (⟨#[97]⟩ : ByteArray).data.toList aw5 = 0 := by rfl
  rw [hl]
  have hl2 : readB (⟨#[97]⟩ : ByteArray).data.toList aw5 = [0, 0, 0, 0, 0, 135] := by rfl
  rw [hl2] at hrow
  obtain ⟨p, c, rfl⟩ := own_slice hrow
  have HROW := Lib.hid hrow
  clear hl hl2 hrow
  go_wp2_with fail
  have hb := bel_alloc (Below.refl w9.heap.size w9) (.cells #[.int .u8 0, .int .u8 0, .int .u8 0, .int .u8 0, .int .u8 0, .int .u8 135] 5)
  have hc : (w9.alloc (.cells #[.int .u8 0, .int .u8 0, .int .u8 0, .int .u8 0, .int .u8 0, .int .u8 135] 5)).heap[w9.heap.size]? = _ := allocs_at [.cells #[.int .u8 0, .int .u8 0, .int .u8 0, .int .u8 0, .int .u8 0, .int .u8 135] 5] w9 0 _ rfl
  refine (equal_any p (some ⟨w9.heap.size, 0, none⟩) 6 c 6 6 [0, 0, 0, 0, 0, 135] [0, 0, 0, 0, 0, 135] _ rfl rfl (BytesAt.bin (bs := [0, 0, 0, 0, 0, 135]) ((own_bytes (bs := [0, 0, 0, 0, 0, 135]) HROW.out).keep fun a _ hlt => hb.block _ hlt)) (BytesAt.bin (bs := [0, 0, 0, 0, 0, 135]) (bytes_block hc rfl rfl))).mono ?_
  rintro e wx ⟨rfl, rfl⟩
  replace HA := Lib.hid (HA.out.below hb)
  clear hb hc HROW
  generalize w9.alloc (.cells #[.int .u8 0, .int .u8 0, .int .u8 0, .int .u8 0, .int .u8 0, .int .u8 135] 5) = w10 at *
  have hl : (Lib.bytesOf [0, 0, 0, 0, 0, 135] == Lib.bytesOf [0, 0, 0, 0, 0, 135]) = true := beq_self_eq_true _
  rw [hl]
  clear hl
  go_wp2_with fail
  refine (HA.out.call (Below.refl _ _) (fun ρ bm blk dv _ hx => fuse_any hx 1) aw_6).mono ?_
  clear HA
  rintro e w11 ⟨rfl, ha⟩
  have HA := Lib.hid ha
  clear ha
  go_wp2_with fail
  refine (HA.out.call (Below.refl _ _) (fun ρ bm blk dv _ hx => create_any hx fine6 ⟨#[98]⟩ (by decide)) aw_7).mono ?_
  clear HA
  rintro e w12 ⟨rfl, ha⟩
  have HA := Lib.hid ha
  clear ha
  go_wp2_with fail
  refine (HA.out.call (Below.refl _ _) (fun ρ bm blk dv _ hx => create_any hx fine7 ⟨#[99]⟩ (by decide)) aw_8).mono ?_
  clear HA
  rintro e w13 ⟨rfl, ha⟩
  have HA := Lib.hid ha
  clear ha
  go_wp2_with fail
  refine (HA.out.look (fun ρ bm blk dv hx => off_any bd bm aw8.off w13 hx.c0 hx.c3)).mono ?_
  rintro e wx ⟨rfl, rfl⟩
  rw [show aw8.off = true from rfl]
  go_wp2_with fail
  refine (HA.out.look (fun ρ bm blk dv hx => names_any hx fine8)).mono ?_
  rintro e w14 ⟨v, rfl, hrow, hb, hnil⟩
  obtain rfl : v = .slice none 0 0 := hnil.2 rfl
  replace HA := Lib.hid (HA.out.below hb)
  clear hb hrow hnil
  go_wp2_with fail
  refine (HA.out.call (Below.refl _ _) (fun ρ bm blk dv hfr hx => crash_any hx fine8 none 0 0 [] ⟨rfl, (fun x hx => by cases hx), (fun j hj => absurd hj (Nat.not_lt_zero _)), fun _ a e => by cases e⟩ none 0 0 [] ⟨rfl, (fun j hj => absurd hj (Nat.not_lt_zero _)), fun _ a e => by cases e⟩) (congrArg (Prod.mk (0 : Int)) aw_9)).mono ?_
  clear HA
  rintro e w15 ⟨rfl, ha⟩
  have HA := Lib.hid ha
  clear ha
  go_wp2_with fail
  refine (HA.out.look (fun ρ bm blk dv hx => names_any hx fine9)).mono ?_
  rintro e w16 ⟨v, rfl, hrow, hb, hnil⟩
  replace HA := Lib.hid (HA.out.below hb)
  obtain ⟨p2, c2, rfl⟩ := own_slice hrow
  have hss := StrsAt.of_own hrow
  have HSS := Lib.hid hss
  clear hb hrow hnil hss
  have hl : (names aw9).length = 2 := by rfl
  rw [hl]
  clear hl
  go_wp2_with fail
  have hb := bel_alloc (Below.refl w16.heap.size w16) (.cells #[.string ⟨#[97]⟩, .string ⟨#[98]⟩] 9)
  have hc : (w16.alloc (.cells #[.string ⟨#[97]⟩, .string ⟨#[98]⟩] 9)).heap[w16.heap.size]? = _ := allocs_at [.cells #[.string ⟨#[97]⟩, .string ⟨#[98]⟩] 9] w16 0 _ rfl
  refine (same_any _ p2 (some ⟨w16.heap.size, 0, none⟩) c2 2 [[97], [98]] [[97], [98]] (HSS.out.below hb) (strs_block hc rfl) (by decide)).mono ?_
  rintro e w17 ⟨rfl, hb2⟩
  replace HA := Lib.hid ((HA.out.below hb).below hb2)
  clear hb hc hb2 HSS
  have hl : (([[97], [98]] : List Nm) == [[97], [98]]) = true := beq_self_eq_true _
  rw [hl]
  clear hl
  go_wp2_with fail
  refine (HA.out.call (Below.refl _ _) (fun ρ bm blk dv _ hx => create_any hx fine9 ⟨#[66]⟩ (by decide)) aw_10).mono ?_
  clear HA
  rintro e w18 ⟨rfl, ha⟩
  have HA := Lib.hid ha
  clear ha
  go_wp2_with fail
  go_ret
  obtain ⟨ρ, _, _, hb⟩ := HA.out
  exact ⟨rfl, hb⟩
end Go.Proofs.YtjlchphbkmaacaaGreatDoor