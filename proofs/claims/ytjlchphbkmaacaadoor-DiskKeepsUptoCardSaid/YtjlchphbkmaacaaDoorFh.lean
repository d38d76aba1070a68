/- DiskErrors: the walk. -/
import Derived.Test.YtjlchphbkmaacaaDoorFg
set_option linter.unusedVariables false
set_option linter.unusedSimpArgs false
namespace Go.Proofs.YtjlchphbkmaacaaDoor
open Go.RowKit Go.MapKept Go.ChangeMaps Go.Maps
attribute [local go_sem ↓] Go.wp_at_zero Go.wp_at_succ
open Dk

def TruePost (w : World) (e : Ending) (w' : World) : Prop := e = .returned (.bool true) ∧ Below w.heap.size w w'

/-- How things stand while the calls are made. -/
def ErrR (w : World) (bd : Nat) (n : Nat) (dn : Nat) (wr : World) : Prop :=
  ∃ s, At w bd s wr ∧ Fine s ∧ s.off = false ∧ s.fuse = (n : Int) - dn ∧ dn ≤ n

set_option maxRecDepth 100000 in
set_option maxHeartbeats 4000000 in
theorem errors_any (w : World) (q : Int) (pl : Option Addr) (ml cl : Nat) (hl : ActsAt w pl ml) (hm : ml ≤ 140737488355328) (fz : Nat) (hfz : fz < 256) :
    Calls Tryd.prog 4 #[.int .i64 q, .slice pl ml cl, .int .u8 fz] w (TruePost w) := by
  have HL := Lib.hid hl
  clear hl
  by_cases hq : 0 ≤ q ∧ q ≤ 4194304
  · have HQ := Lib.hid hq
    clear hq
    go_enter Tryd.func4, Tryd.ntmps4
    go_wp2_with fail
    refine (new_any q w).mono ?_
    rintro e w1 hp
    unfold NewPost at hp
    rw [if_pos HQ.out] at hp
    obtain ⟨ρ1, bd, rfl, hr1, hρ, hb1⟩ := hp
    have HA := Lib.hid (show At w bd (fresh q) w1 from ⟨ρ1, hr1, hρ, hb1⟩)
    clear hr1 hρ hb1
    obtain ⟨n, hn, hn21⟩ : ∃ n : Nat, (fz : Int) % 21 = (n : Int) ∧ n < 21 := ⟨fz % 21, by omega, Nat.mod_lt _ (by decide)⟩
    go_wp2_with fail
    have hfu : fuse (n : Int) (fresh q) = (0, { fresh q with fuse := n }) := by
      unfold fuse
      rw [if_pos]
      show first [0, if (n : Int) < -1 then 1 else 0] = 0
      rw [if_neg (by omega)]
      rfl
    refine (HA.out.call (Below.refl _ _) (fun ρ bm blk dv _ hx => fuse_any hx n) hfu).mono ?_
    have hf1 : Fine { fresh q with fuse := (n : Int) } := by
      have := (fine0 HQ.out.1 HQ.out.2).fuse n (by omega)
      rw [hfu] at this
      exact this
    have HF1 := Lib.hid hf1
    clear hf1 hfu HA
    rintro e w2 ⟨rfl, ha⟩
    have H0 := Lib.hid (show ErrR w bd n 0 w2 from ⟨_, ha, HF1.out, rfl, by simp, Nat.zero_le _⟩)
    clear ha HF1
    go_wp2_with fail
    go_loopw [10, 40] (fun t i wr => ∃ k dn : Nat, k ≤ ml ∧ k ≤ 100 ∧ i = .int .i64 k ∧ t = .int .i64 dn ∧ ErrR w bd n dn wr) (fun _ i _ => ml - (intOf i).toNat)
    case atStart => exact ⟨0, 0, Nat.zero_le _, Nat.zero_le _, rfl, rfl, H0.out⟩
    case round =>
      obtain ⟨k, dn, hk, hk100, rfl, rfl, hrr⟩ := hrel
      obtain ⟨s, ha, hg, ho, hf, hdn⟩ := hrr
      have HA := Lib.hid ha
      have HG := Lib.hid hg
      have HO := Lib.hid ho
      have HF := Lib.hid hf
      clear ha hg ho hf
      by_cases hlt : k < ml
      · obtain ⟨b, o, A, rfl, hab, hin, d0, d1, d2, d3, d4, d5⟩ := HL.out.each k hlt
        obtain ⟨_, _, _, hbl⟩ := HA.out
        have e0 := (hbl.cell (cell_lt d0)).trans d0
        have e1 := (hbl.cell (cell_lt d1)).trans d1
        have e2 := (hbl.cell (cell_lt d2)).trans d2
        have e3 := (hbl.cell (cell_lt d3)).trans d3
        have e4 := (hbl.cell (cell_lt d4)).trans d4
        have e5 := (hbl.cell (cell_lt d5)).trans d5
        have HIN := Lib.hid hin
        clear hin d0 d1 d2 d3 d4 d5 hbl hab
        by_cases hk1 : k = 100
        · subst hk1
          go_wp2_with fail
          have hb := bel_alloc (Below.refl wr.heap.size wr) (.cells #[.int .i64 A.what, .string A.nm, .string A.ot, .slice A.pb A.mb A.cb, .int .i64 A.n, .slice A.pp A.mp A.cp] 31)
          clear e0 e1 e2 e3 e4 e5
          refine (awake_any _).mono ?_
          rintro e w5 ⟨rfl, hb5⟩
          have HA5 := Lib.hid ((HA.out.below hb).below hb5)
          clear hb5
          have hle : (dn : Int) ≤ (n : Int) := by omega
          go_wp2_with fail
          refine (HA5.out.look (fun ρ bm blk dv hx => off_any bd bm s.off w5 hx.c0 hx.c3)).mono ?_
          rintro e wx ⟨rfl, rfl⟩
          rw [HO.out]
          go_wp2_with fail
          go_ret
          obtain ⟨_, _, _, hbl⟩ := HA5.out
          exact ⟨rfl, hbl⟩
        have hkne : ((k : Int) == 100) = false := by rw [beq_eq_false_iff_ne]; omega
        by_cases hwr : 0 ≤ A.what ∧ A.what ≤ 5
        · have k0 : decide (A.what < 0) = false := by rw [decide_eq_false_iff_not]; omega
          have k5 : decide (A.what > 5) = false := by rw [decide_eq_false_iff_not]; omega
          have HWR := Lib.hid hwr
          clear hwr
          go_wp2_with fail
          have hb := bel_alloc (Below.refl wr.heap.size wr) (.cells #[.int .i64 A.what, .string A.nm, .string A.ot, .slice A.pb A.mb A.cb, .int .i64 A.n, .slice A.pp A.mp A.cp] 31)
          have hbox := allocs_at [(.cells #[.int .i64 A.what, .string A.nm, .string A.ot, .slice A.pb A.mb A.cb, .int .i64 A.n, .slice A.pp A.mp A.cp] 31)] wr 0 _ rfl
          have HA1 := Lib.hid (HA.out.below hb)
          clear hb e0 e1 e2 e3 e4 e5
          refine (HA1.out.look (fun ρ bm blk dv hx => shape_any hx HG.out)).mono ?_
          rintro e w3 ⟨rfl, hb3⟩
          have hbox3 := (hb3.block wr.heap.size (Array.getElem?_eq_some_iff.1 hbox).1).trans hbox
          have d0 : w3.cell? ⟨wr.heap.size, 0, none⟩ = some (.int .i64 A.what) := cell_of_block (i := 0) hbox3
          have d1 : w3.cell? ⟨wr.heap.size, 1, none⟩ = some (.string A.nm) := cell_of_block (i := 1) hbox3
          have d2 : w3.cell? ⟨wr.heap.size, 2, none⟩ = some (.string A.ot) := cell_of_block (i := 2) hbox3
          have d3 : w3.cell? ⟨wr.heap.size, 3, none⟩ = some (.slice A.pb A.mb A.cb) := cell_of_block (i := 3) hbox3
          have d4 : w3.cell? ⟨wr.heap.size, 4, none⟩ = some (.int .i64 A.n) := cell_of_block (i := 4) hbox3
          have d5 : w3.cell? ⟨wr.heap.size, 5, none⟩ = some (.slice A.pp A.mp A.cp) := cell_of_block (i := 5) hbox3
          have HA3 := Lib.hid (HA1.out.below hb3)
          clear hb3 hbox hbox3
          generalize hsh : shapeS s = sh at *
          have HSH := Lib.hid hsh
          clear hsh
          go_wp2_with fail
          obtain ⟨z, s', hr⟩ : ∃ z s', doF A s = (z, s') := ⟨_, _, rfl⟩
          have h3 := doF_three A (s := s) (by rw [HF.out]; omega) HO.out HWR.out.1 HWR.out.2
          rw [hr] at h3
          simp only at h3
          have hg' : Fine s' := by
            have := HG.out.doF A HIN.out.n1
            rw [hr] at this
            exact this
          have HG' := Lib.hid hg'
          have H3 := Lib.hid h3
          refine (HA3.out.call2 (fun ρ bm blk dv hρ hbl hx => do_any hx HG.out A (HIN.out.ok hρ hbl)) hr).mono ?_
          clear hr hg' h3 d0 d1 d2 d3 d4 d5
          rintro e w4 ⟨rfl, ha4⟩
          have HA4 := Lib.hid ha4
          clear ha4
          rcases H3.out with ⟨rfl, h1, h2, h3⟩ | ⟨rfl, h1, h2⟩ | ⟨h1, h2, rfl⟩
          · have HZ := Lib.hid (And.intro h1 (And.intro h2 h3))
            clear h1 h2 h3
            have hfu : (0 : Int) < (n : Int) - dn := by rw [← HF.out]; exact HZ.out.1
            go_wp2_with fail
            go_roundw
            case rel => exact ⟨k + 1, dn + 1, by omega, by omega, by go_num, by go_num, s', HA4.out, HG'.out, HZ.out.2.2, by rw [HZ.out.2.1, HF.out]; omega, by omega⟩
            case measure => simp [intOf]; omega
          · have hdn' : dn = n := by have := HF.out; omega
            subst hdn'
            have HZ := Lib.hid h2
            clear h1 h2
            go_wp2_with fail
            refine (awake_any _).mono ?_
            rintro e w5 ⟨rfl, hb5⟩
            have HA5 := Lib.hid (HA4.out.below hb5)
            clear hb5
            go_wp2_with fail
            refine (HA5.out.look (fun ρ bm blk dv hx => off_any bd bm s'.off w5 hx.c0 hx.c3)).mono ?_
            rintro e wx ⟨rfl, rfl⟩
            rw [HZ.out]
            go_wp2_with fail
            refine (HA5.out.look (fun ρ bm blk dv hx => names_any hx HG'.out)).mono ?_
            rintro e w6 ⟨v, rfl, hrow, hb, hnil⟩
            have hnn : names s' = [] := by simp [names, HZ.out]
            obtain rfl : v = .slice none 0 0 := hnil.2 hnn
            have HA6 := Lib.hid (HA5.out.below hb)
            clear hb hrow hnil hnn
            go_wp2_with fail
            go_ret
            obtain ⟨_, _, _, hbl⟩ := HA6.out
            exact ⟨rfl, hbl⟩
          · have hz0 : (z == 0) = false := beq_eq_false_iff_ne.2 h1
            have hz8 : (z == 8) = false := beq_eq_false_iff_ne.2 h2
            clear h1 h2
            go_wp2_with fail
            refine (HA4.out.look (fun ρ bm blk dv hx => off_any bd bm s'.off w4 hx.c0 hx.c3)).mono ?_
            rintro e wx ⟨rfl, rfl⟩
            rw [HO.out]
            go_wp2_with fail
            refine (HA4.out.look (fun ρ bm blk dv hx => shape_any hx HG'.out)).mono ?_
            rintro e w5 ⟨rfl, hb5⟩
            have HA5 := Lib.hid (HA4.out.below hb5)
            clear hb5
            rw [HSH.out]
            go_wp2_with fail
            go_roundw
            case rel => exact ⟨k + 1, dn, by omega, by omega, by go_num, rfl, s', HA5.out, HG'.out, HO.out, HF.out, hdn⟩
            case measure => simp [intOf]; omega
        · have HWR := Lib.hid hwr
          have hsk : decide (A.what < 0) = true ∨ decide (A.what < 0) = false ∧ decide (A.what > 5) = true := by
            simp only [decide_eq_true_eq, decide_eq_false_iff_not]
            omega
          clear hwr
          have hb := bel_alloc (Below.refl wr.heap.size wr) (.cells #[.int .i64 A.what, .string A.nm, .string A.ot, .slice A.pb A.mb A.cb, .int .i64 A.n, .slice A.pp A.mp A.cp] 31)
          have HA1 := Lib.hid (HA.out.below hb)
          clear hb
          rcases hsk with k0 | ⟨k0, k5⟩
          all_goals
            go_wp2_with fail
            go_roundw
            case rel => exact ⟨k + 1, dn, by omega, by omega, by go_num, rfl, s, HA1.out, HG.out, HO.out, HF.out, hdn⟩
            case measure => simp [intOf]; omega
      · obtain rfl : k = ml := by omega
        go_wp2_with fail
        refine (awake_any _).mono ?_
        rintro e w5 ⟨rfl, hb5⟩
        have HA5 := Lib.hid (HA.out.below hb5)
        clear hb5
        have hle : (dn : Int) ≤ (n : Int) := by omega
        go_wp2_with fail
        refine (HA5.out.look (fun ρ bm blk dv hx => off_any bd bm s.off w5 hx.c0 hx.c3)).mono ?_
        rintro e wx ⟨rfl, rfl⟩
        rw [HO.out]
        go_wp2_with fail
        go_ret
        obtain ⟨_, _, _, hbl⟩ := HA5.out
        exact ⟨rfl, hbl⟩
  · have hr : NewPost q w = fun e w' => e = .returned (.tuple #[.pointer none, .int .i64 1]) ∧ w' = w := by
      funext e w'
      unfold NewPost
      rw [if_neg hq]
    have HQ := Lib.hid hr
    clear hr hq
    go_enter Tryd.func4, Tryd.ntmps4
    go_wp2_with fail
    refine (new_any q w).mono ?_
    rintro e w1 hp
    rw [HQ.out] at hp
    obtain ⟨rfl, rfl⟩ := hp
    go_wp2_with fail
    refine (awake_any _).mono ?_
    rintro e w5 ⟨rfl, hb5⟩
    have HB := Lib.hid hb5
    clear hb5
    go_wp2_with fail
    go_ret
    exact ⟨rfl, HB.out⟩
end Go.Proofs.YtjlchphbkmaacaaDoor
