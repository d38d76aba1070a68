/- DiskKnown: the walk. -/
import Derived.Test.YtjlchphbkmaacaaDoorGa
import Derived.Test.YtjlchphbkmaacaaDoorGb
import Derived.Test.YtjlchphbkmaacaaDoorFh
set_option linter.unusedVariables false
set_option linter.unusedSimpArgs false
namespace Go.Proofs.YtjlchphbkmaacaaDoor
open Go.RowKit Go.MapKept Go.ChangeMaps Go.Maps
attribute [local go_sem ↓] Go.wp_at_zero Go.wp_at_succ
open Dk

theorem ba_three (a b c : UInt8) : ((⟨#[a]⟩ : ByteArray) ++ (⟨#[b, c]⟩ : ByteArray)) = ⟨#[a, b, c]⟩ := by
  apply ByteArray.ext
  simp [ByteArray.data_append]

set_option maxRecDepth 100000 in
set_option maxHeartbeats 8000000 in
theorem known_any (w : World) : Calls Tryd.prog 5 #[] w (TruePost w) := by
  go_enter Tryd.func5, Tryd.ntmps5
  go_wp2_with fail
  refine (awake_any _).mono ?_
  rintro e w0 ⟨rfl, hb0⟩
  have HB0 := Lib.hid hb0
  clear hb0
  go_wp2_with fail
  refine (new_any 4194304 w0).mono ?_
  rintro e w1 hp
  unfold NewPost at hp
  rw [if_pos (by decide)] at hp
  obtain ⟨ρ1, bd, rfl, hr1, hρ, hb1⟩ := hp
  have HA := Lib.hid (show At w bd (ks 0) w1 from ⟨ρ1, hr1, fun b h => hρ b (Nat.lt_of_lt_of_le h HB0.out.size), HB0.out.trans (hb1.mono HB0.out.size)⟩)
  clear hr1 hρ hb1
  go_wp2_with fail
  go_loopw [36] (fun i wr => ∃ k : Nat, k ≤ 512 ∧ i = .int .i64 k ∧ At w bd (ks k) wr) (fun i _ => 512 - (intOf i).toNat)
  case atStart => exact ⟨0, Nat.zero_le _, rfl, HA.out⟩
  case round =>
    obtain ⟨k, hk, rfl, ha⟩ := hrel
    have HK := Lib.hid ha
    clear ha
    by_cases hlt : k < 512
    · have e1 : (97 + (k : Int) % 26) = ((UInt8.ofNat (97 + k % 26)).toNat : Int) := by
        rw [UInt8.toNat_ofNat']
        omega
      have e2 : (97 + (k : Int) / 26) = ((UInt8.ofNat (97 + k / 26)).toNat : Int) := by
        rw [UInt8.toNat_ofNat']
        omega
      have hcv : (convert 24 9 (.slice (some ⟨wr.heap.size, 0, none⟩) 2 2)).run Tryd.prog (wr.alloc (.cells #[.int .u8 (97 + (k : Int) % 26), .int .u8 (97 + (k : Int) / 26)] 5)) = .ok (.string ⟨[UInt8.ofNat (97 + k % 26), UInt8.ofNat (97 + k / 26)].toArray⟩) (wr.alloc (.cells #[.int .u8 (97 + (k : Int) % 26), .int .u8 (97 + (k : Int) / 26)] 5)) :=
        conv_string (bytes_block (allocs_at [.cells #[.int .u8 (97 + (k : Int) % 26), .int .u8 (97 + (k : Int) / 26)] 5] wr 0 _ rfl) (by rw [e1, e2]; rfl) rfl)
      clear e1 e2
      have hb := bel_alloc (Below.refl wr.heap.size wr) (.cells #[.int .u8 (97 + (k : Int) % 26), .int .u8 (97 + (k : Int) / 26)] 5)
      have HKb := Lib.hid (HK.out.below hb)
      clear hb
      go_wp2_with fail
      clear hcv
      refine (HKb.out.call (Below.refl _ _) (fun ρ bm blk dv _ hx => create_any hx (ks_all k (by omega)).fine _ ?hsz) (z := 0) (s' := ks (k + 1)) ?hcr).mono ?_
      case hsz => rw [ba_three]; exact (by decide : 3 ≤ maxLen)
      case hcr =>
        rw [ba_three]
        have h3 : kn k = [102, 97 + UInt8.ofNat (k % 26), 97 + UInt8.ofNat (k / 26)] := by simp [kn]
        show create [102, 97 + UInt8.ofNat (k % 26), 97 + UInt8.ofNat (k / 26)] (ks k) = _
        rw [← h3]
        exact ks_ok hlt
      rintro e w2 ⟨rfl, ha⟩
      have HA2 := Lib.hid ha
      clear ha
      go_wp2_with fail
      go_roundw
      case rel => exact ⟨k + 1, by omega, by go_num, HA2.out⟩
      case measure => simp [intOf]; omega
    · obtain rfl : k = 512 := by omega
      rw [k0_is] at HK
      go_wp2_with fail
      refine (HK.out.call (Below.refl _ _) (fun ρ bm blk dv _ hx => create_any hx n0 ⟨#[109, 111, 114, 101]⟩ (by decide)) q1).mono ?_
      clear HK
      rintro e w2 ⟨rfl, ha⟩
      have HA := Lib.hid ha
      clear ha
      go_wp2_with fail
      refine (HA.out.call (Below.refl _ _) (fun ρ bm blk dv hfr hx => rename_any hx n0 ⟨#[102, 97, 97]⟩ ⟨#[102, 98, 97]⟩ (by decide) (by decide)) q2).mono ?_
      clear HA
      rintro e w2 ⟨rfl, ha⟩
      have HA := Lib.hid ha
      clear ha
      go_wp2_with fail
      refine (HA.out.call (Below.refl _ _) (fun ρ bm blk dv hfr hx => create_any hx n2 ⟨#[109, 111, 114, 101]⟩ (by decide)) q3).mono ?_
      clear HA
      rintro e w2 ⟨rfl, ha⟩
      have HA := Lib.hid ha
      clear ha
      go_wp2_with fail
      refine (HA.out.call (Below.refl _ _) (fun ρ bm blk dv hfr hx => create_any hx n3 ⟨#[109, 111, 114, 101]⟩ (by decide)) q4).mono ?_
      clear HA
      rintro e w2 ⟨rfl, ha⟩
      have HA := Lib.hid ha
      clear ha
      go_wp2_with fail
      refine (HA.out.call (Below.refl _ _) (fun ρ bm blk dv hfr hx => truncate_any hx n3 ⟨#[109, 111, 114, 101]⟩ (by decide) 1) q5).mono ?_
      clear HA
      rintro e w2 ⟨rfl, ha⟩
      have HA := Lib.hid ha
      clear ha
      go_wp2_with fail
      refine (HA.out.call (Below.refl _ _) (fun ρ bm blk dv hfr hx => truncate_any hx n3 ⟨#[109, 111, 114, 101]⟩ (by decide) (-1)) q6).mono ?_
      clear HA
      rintro e w2 ⟨rfl, ha⟩
      have HA := Lib.hid ha
      clear ha
      go_wp2_with fail
      refine (HA.out.call (Below.refl _ _) (fun ρ bm blk dv hfr hx => remove_any hx n3 ⟨#[102, 97, 97]⟩ (by decide)) q7).mono ?_
      clear HA
      rintro e w2 ⟨rfl, ha⟩
      have HA := Lib.hid ha
      clear ha
      go_wp2_with fail
      refine (HA.out.call (Below.refl _ _) (fun ρ bm blk dv hfr hx => quota_any hx 0) q8).mono ?_
      clear HA
      rintro e w2 ⟨rfl, ha⟩
      have HA := Lib.hid ha
      clear ha
      go_wp2_with fail
      refine (HA.out.call (Below.refl _ _) (fun ρ bm blk dv hfr hx => append_any hx n8 ⟨#[109, 111, 114, 101]⟩ (by decide) none 0 0 [] ⟨rfl, fun _ => rfl, fun a e => by cases e⟩ (fun _ => rfl) (fun a e => by cases e) (by decide)) q9).mono ?_
      clear HA
      rintro e w2 ⟨rfl, ha⟩
      have HA := Lib.hid ha
      clear ha
      go_wp2_with fail
      have hb := bel_alloc (Below.refl w2.heap.size w2) (.cells #[.int .u8 1] 5)
      have hc : (w2.alloc (.cells #[.int .u8 1] 5)).heap[w2.heap.size]? = _ := allocs_at [.cells #[.int .u8 1] 5] w2 0 _ rfl
      refine (HA.out.call hb (fun ρ bm blk dv hfr hx => append_any hx n9 ⟨#[109, 111, 114, 101]⟩ (by decide) (some ⟨w2.heap.size, 0, none⟩) 1 1 [1] (bytes_block hc rfl rfl) (fun e => by cases e) (fun a e => by cases e; exact hfr _ (Nat.le_refl _)) (by decide)) q10).mono ?_
      clear HA
      rintro e w2 ⟨rfl, ha⟩
      have HA := Lib.hid ha
      clear ha
      go_wp2_with fail
      refine (HA.out.call (Below.refl _ _) (fun ρ bm blk dv hfr hx => quota_any hx (-1)) q11).mono ?_
      clear HA
      rintro e w2 ⟨rfl, ha⟩
      have HA := Lib.hid ha
      clear ha
      go_wp2_with fail
      refine (HA.out.call (Below.refl _ _) (fun ρ bm blk dv hfr hx => fuse_any hx (-2)) q12).mono ?_
      clear HA
      rintro e w2 ⟨rfl, ha⟩
      have HA := Lib.hid ha
      clear ha
      go_wp2_with fail
      refine (HA.out.call (Below.refl _ _) (fun ρ bm blk dv hfr hx => fuse_any hx 0) q13).mono ?_
      clear HA
      rintro e w2 ⟨rfl, ha⟩
      have HA := Lib.hid ha
      clear ha
      go_wp2_with fail
      refine (HA.out.call (Below.refl _ _) (fun ρ bm blk dv hfr hx => sync_any hx n13 ⟨#[109, 111, 114, 101]⟩ (by decide)) q14).mono ?_
      clear HA
      rintro e w2 ⟨rfl, ha⟩
      have HA := Lib.hid ha
      clear ha
      go_wp2_with fail
      refine (HA.out.call (Below.refl _ _) (fun ρ bm blk dv hfr hx => fuse_any hx 1) q15).mono ?_
      clear HA
      rintro e w2 ⟨rfl, ha⟩
      have HA := Lib.hid ha
      clear ha
      go_wp2_with fail
      refine (HA.out.look (fun ρ bm blk dv hx => size_any hx n14 ⟨#[109, 111, 114, 101]⟩ (by decide))).mono ?_
      rintro e w2 ⟨rfl, hb⟩
      replace HA := Lib.hid (HA.out.below hb)
      clear hb
      rw [show readE (⟨#[109, 111, 114, 101]⟩ : ByteArray).data.toList k14 = 8 from rfl]
      generalize ((readB (⟨#[109, 111, 114, 101]⟩ : ByteArray).data.toList k14).length : Int) = zz
      go_wp2_with fail
      refine (new_any (-1) _).mono ?_
      rintro e w2 hp
      unfold NewPost at hp
      rw [if_neg (by decide)] at hp
      obtain ⟨rfl, rfl⟩ := hp
      go_wp2_with fail
      refine (new_any (4194305) _).mono ?_
      rintro e w2 hp
      unfold NewPost at hp
      rw [if_neg (by decide)] at hp
      obtain ⟨rfl, rfl⟩ := hp
      go_wp2_with fail
      refine (read_nil _ ⟨#[97]⟩).mono ?_
      rintro e w2 ⟨rfl, hb⟩
      replace HA := Lib.hid (HA.out.below hb)
      clear hb
      go_wp2_with fail
      refine (HA.out.call (Below.refl _ _) (fun ρ bm blk dv hfr hx => quota_any hx 5) q16).mono ?_
      clear HA
      rintro e w2 ⟨rfl, ha⟩
      have HA := Lib.hid ha
      clear ha
      go_wp2_with fail
      refine (create_nil _ ⟨#[97]⟩ (by decide)).mono ?_
      rintro e w2 ⟨rfl, hb⟩
      replace HA := Lib.hid (HA.out.below hb)
      clear hb
      go_wp2_with fail
      refine (append_nil _ ⟨#[97]⟩ none 0 0).mono ?_
      rintro e w2 ⟨rfl, hb⟩
      replace HA := Lib.hid (HA.out.below hb)
      clear hb
      go_wp2_with fail
      refine (sync_nil _ ⟨#[97]⟩).mono ?_
      rintro e w2 ⟨rfl, hb⟩
      replace HA := Lib.hid (HA.out.below hb)
      clear hb
      go_wp2_with fail
      refine (rename_nil _ ⟨#[97]⟩ ⟨#[98]⟩ (by decide)).mono ?_
      rintro e w2 ⟨rfl, hb⟩
      replace HA := Lib.hid (HA.out.below hb)
      clear hb
      go_wp2_with fail
      refine (truncate_nil _ ⟨#[97]⟩ 0).mono ?_
      rintro e w2 ⟨rfl, hb⟩
      replace HA := Lib.hid (HA.out.below hb)
      clear hb
      go_wp2_with fail
      refine (remove_nil _ ⟨#[97]⟩).mono ?_
      rintro e w2 ⟨rfl, hb⟩
      replace HA := Lib.hid (HA.out.below hb)
      clear hb
      go_wp2_with fail
      refine (quota_nil _ 0).mono ?_
      rintro e w2 ⟨rfl, hb⟩
      replace HA := Lib.hid (HA.out.below hb)
      clear hb
      go_wp2_with fail
      refine (fuse_nil _ 0).mono ?_
      rintro e w2 ⟨rfl, hb⟩
      replace HA := Lib.hid (HA.out.below hb)
      clear hb
      go_wp2_with fail
      refine (crash_nil _ _ _).mono ?_
      rintro e w2 ⟨rfl, hb⟩
      replace HA := Lib.hid (HA.out.below hb)
      clear hb
      go_wp2_with fail
      refine (off_nil _).mono ?_
      rintro e w2 ⟨rfl, hb⟩
      replace HA := Lib.hid (HA.out.below hb)
      clear hb
      go_wp2_with fail
      refine (names_nil _).mono ?_
      rintro e w2 ⟨rfl, rfl⟩
      go_wp2_with fail
      refine (used_nil _).mono ?_
      rintro e w2 ⟨rfl, hb⟩
      replace HA := Lib.hid (HA.out.below hb)
      clear hb
      go_wp2_with fail
      refine (loose_nil _ ⟨#[97]⟩).mono ?_
      rintro e w2 ⟨rfl, hb⟩
      replace HA := Lib.hid (HA.out.below hb)
      clear hb
      go_wp2_with fail
      refine (may_any ⟨#[]⟩ _ (by decide)).mono ?_
      rintro e w2 ⟨rfl, hb⟩
      replace HA := Lib.hid (HA.out.below hb)
      clear hb
      rw [show Dk.may (⟨#[]⟩ : ByteArray).data.toList = false from by decide +kernel]
      go_wp2_with fail
      refine (may_any ⟨#[97, 95, 98]⟩ _ (by decide)).mono ?_
      rintro e w2 ⟨rfl, hb⟩
      replace HA := Lib.hid (HA.out.below hb)
      clear hb
      rw [show Dk.may (⟨#[97, 95, 98]⟩ : ByteArray).data.toList = false from by decide +kernel]
      go_wp2_with fail
      refine (may_any ⟨#[97, 46, 98, 45, 48]⟩ _ (by decide)).mono ?_
      rintro e w2 ⟨rfl, hb⟩
      replace HA := Lib.hid (HA.out.below hb)
      clear hb
      rw [show Dk.may (⟨#[97, 46, 98, 45, 48]⟩ : ByteArray).data.toList = true from by decide +kernel]
      go_wp2_with fail
      refine (may_any ⟨#[49, 50, 51, 52, 53, 54, 55, 56, 57, 48, 49, 50, 51, 52, 53, 54, 55, 56, 57, 48, 49, 50, 51, 52, 53, 54, 55, 56, 57, 48, 49, 50, 51]⟩ _ (by decide)).mono ?_
      rintro e w2 ⟨rfl, hb⟩
      replace HA := Lib.hid (HA.out.below hb)
      clear hb
      rw [show Dk.may (⟨#[49, 50, 51, 52, 53, 54, 55, 56, 57, 48, 49, 50, 51, 52, 53, 54, 55, 56, 57, 48, 49, 50, 51, 52, 53, 54, 55, 56, 57, 48, 49, 50, 51]⟩ : ByteArray).data.toList = false from by decide +kernel]
      go_wp2_with fail
      go_ret
      obtain ⟨_, _, _, hbl⟩ := HA.out
      exact ⟨rfl, hbl⟩
end Go.Proofs.YtjlchphbkmaacaaDoor
