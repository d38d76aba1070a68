/- The reference's Crash. -/
import Derived.Test.YtjlchphbkmaacaaGreatDoorHk
import Derived.Test.YtjlchphbkmaacaaGreatDoorEi
set_option linter.unusedVariables false
set_option linter.unusedSimpArgs false
namespace Go.Proofs.YtjlchphbkmaacaaGreatDoor
open Go.RowKit Go.MapKept Go.ChangeMaps Go.Maps
attribute [local go_sem ↓] Go.wp_at_zero Go.wp_at_succ
open Dk

namespace Dk
/-- What stays of a file's loose bytes. -/
def looseL (torn : List UInt8) (k st : Nat) (l : List UInt8) : List UInt8 := if 0 < st ∧ k < torn.length then (l.take st).set (st - 1) (l.getD (st - 1) 0 ^^^ torn.getD k 0) else l.take st
theorem looseL_len (torn : List UInt8) (k st : Nat) (l : List UInt8) (h : st ≤ l.length) : (looseL torn k st l).length = st := by
  unfold looseL
  split
  · rw [List.length_set, List.length_take]; omega
  · rw [List.length_take]; omega
theorem crash1_split (picks : List Nat) (torn : List UInt8) (k : Nat) {f : Fi} (h : f.fast ≤ f.b.length) : (crash1 picks torn k f).b = fastB f ++ looseL torn k (stays picks k f) (looseB f) := by
  have hs := stays_le picks k f
  show torn1 torn k (stays picks k f) (f.b.take (f.fast + stays picks k f)) = _
  have e0 : f.b.take (f.fast + stays picks k f) = fastB f ++ (looseB f).take (stays picks k f) := by
    show _ = f.b.take f.fast ++ (f.b.drop f.fast).take (stays picks k f)
    rw [List.take_add]
  have hfl := fastB_len h
  have hll := looseB_len f
  generalize stays picks k f = st at *
  unfold torn1 looseL
  by_cases hc : 0 < st ∧ k < torn.length
  · rw [if_pos hc, if_pos hc, e0]
    have hl : (fastB f ++ (looseB f).take st).length = f.fast + st := by rw [List.length_append, List.length_take, hfl]; omega
    rw [hl, List.set_append_right _ _ (by omega), hfl]
    have e1 : f.fast + st - 1 - f.fast = st - 1 := by omega
    have e2 : (fastB f ++ (looseB f).take st).getD (f.fast + st - 1) 0 = (looseB f).getD (st - 1) 0 := by
      rw [List.getD_eq_getElem?_getD, List.getD_eq_getElem?_getD, List.getElem?_append_right (by omega), hfl, e1, List.getElem?_take, if_pos (by omega)]
    rw [e1, e2]
  · rw [if_neg hc, if_neg hc, e0]
theorem crash1_fastB (picks : List Nat) (torn : List UInt8) (k : Nat) {f : Fi} (h : f.fast ≤ f.b.length) : fastB (crash1 picks torn k f) = fastB f ++ looseL torn k (stays picks k f) (looseB f) ∧ looseB (crash1 picks torn k f) = [] := by
  have h1 := (crash1_length picks torn k h).1
  constructor
  · rw [← crash1_split picks torn k h]
    exact List.take_of_length_le (by rw [h1]; exact Nat.le_refl _)
  · exact List.drop_of_length_le (by rw [h1]; exact Nat.le_refl _)
end Dk

section
variable {σ : Nat → Option Role} {w : World} {rd : Nat} {s : St} {vF : Value} {fv lv : Nm → Value}
def crSt (ps : List Nat) (ts : List UInt8) (i : Nat) (s : St) : St := { s with off := false, fuse := -1, F := crashT ps ts i 0 s.F }
def RCr (σ : Nat → Option Role) (w : World) (rd : Nat) (s : St) (ps : List Nat) (ts : List UInt8) (i : Nat) (wr : World) : Prop :=
  ∃ σr, RefRep σr wr rd (crSt ps ts i s) ∧ Fr σ σr w wr

set_option maxRecDepth 100000 in
set_option maxHeartbeats 8000000 in
theorem rcrash_any (h : RefX σ w rd s vF fv lv) (hg : Fine s) (pp : Option Addr) (mp cp : Nat) (ps : List Nat) (hp : PicksAt σ w pp mp ps) (pt : Option Addr) (mt ct : Nat) (ts : List UInt8) (ht : TornAt σ w pt mt ts) :
    Calls Tryz.prog 39 #[.pointer (some ⟨rd, 0, none⟩), .slice pp mp cp, .slice pt mt ct] w (RLayPost σ w rd (crash ps ts s)) := by
  have d2 := h.d2
  have d3 := h.d3
  have z2 := h.fz 2
  have z3 := h.fz 3
  have H := Lib.hid h
  have HG := Lib.hid hg
  have HP := Lib.hid hp
  have HT := Lib.hid ht
  clear h hg hp ht
  have hx1 := (H.out.upd 3 (.bool false) { s with off := false } rfl rfl).upd 2 (.int .i64 (-1)) (crSt ps ts 0 s) rfl (by show crashT ps ts 0 0 s.F = s.F; cases s.F <;> rfl)
  have hf1 : Fr σ σ w ((w.setCell ⟨rd, 3, none⟩ (.bool false)).setCell ⟨rd, 2, none⟩ (.int .i64 (-1))) := (Fr.cell (w' := w) (a := ⟨rd, 3, none⟩) H.out.hrd _).trans (Fr.cell (w' := w) (a := ⟨rd, 2, none⟩) H.out.hrd _)
  have HC0 := Lib.hid (show RCr σ w rd s ps ts 0 ((w.setCell ⟨rd, 3, none⟩ (.bool false)).setCell ⟨rd, 2, none⟩ (.int .i64 (-1))) from ⟨σ, ⟨_, _, _, hx1⟩, hf1⟩)
  clear hx1 hf1
  have hlen := HG.out.files
  generalize hl : s.F.length = len at *
  have HL := Lib.hid hl
  clear hl
  go_enter Tryz.func39, Tryz.ntmps39
  go_wp2_with fail
  go_loopw [6, 7] (fun kk i wr => ∃ k : Nat, k ≤ len ∧ i = .int .i64 k ∧ kk = .int .i64 (crashK k 0 s.F) ∧ RCr σ w rd s ps ts k wr) (fun _ i _ => len - (intOf i).toNat)
  case atStart => exact ⟨0, Nat.zero_le _, rfl, by simp [crashK], HC0.out⟩
  case round =>
    obtain ⟨k, hk, rfl, rfl, σr, ⟨vFr, fvr, lvr, hx⟩, hfr⟩ := hrel
    have HX := Lib.hid hx
    have HFR := Lib.hid hfr
    clear hx hfr d2 d3 z2 z3
    obtain ⟨p, c, rfl⟩ := HX.out.form
    have hcl : (crSt ps ts k s).F.length = len := by rw [← HL.out]; exact crashT_length k 0 s.F
    rw [hcl] at HX
    have d0 := HX.out.d0
    by_cases hlt : k < len
    · obtain ⟨x, hx⟩ : ∃ x, s.F[k]? = some x := ⟨_, List.getElem?_eq_getElem (by rw [HL.out]; exact hlt)⟩
      obtain ⟨h1, h2, h3⟩ := crashT_step (picks := ps) (torn := ts) k 0 s.F x HG.out.rise hx
      have hrise : (crSt ps ts k s).F.Pairwise fun x y => bytesBefore x.1 y.1 = true := rise_names HG.out.rise (crashT_names k 0 s.F)
      have hxk : (crSt ps ts k s).F[k]? = some (x.1, x.2) := by
        obtain ⟨y, hy⟩ : ∃ y, (crSt ps ts k s).F[k]? = some y := ⟨_, List.getElem?_eq_getElem (by rw [hcl]; exact hlt)⟩
        have hn : y.1 = x.1 := by
          have e := congrArg (fun l : List Nm => l[k]?) (crashT_names (picks := ps) (torn := ts) k 0 s.F)
          simp only [List.getElem?_map] at e
          rw [show (crashT ps ts k 0 s.F)[k]? = some y from hy, hx] at e
          exact Option.some.inj e
        have hgy := get_of_mem hrise (List.mem_of_getElem? hy)
        rw [hn] at hgy
        have hgx : get x.1 (crSt ps ts k s).F = some x.2 := h1
        rw [hgx] at hgy
        rw [hy]
        obtain ⟨y1, y2⟩ := y
        simp only at hn hgy
        cases hgy
        rw [hn]
      obtain ⟨g, c', hv, ht0, ht1, ht2, hz, _, hlc⟩ := HX.out.tri hxk
      simp only [Value.slice.injEq] at hv
      obtain ⟨rfl, hv0, rfl⟩ := hv
      clear hv0
      have hmem := List.mem_of_getElem? hxk
      have hfo := HX.out.hf _ hmem
      have hlo := HX.out.hl _ hmem
      have hxm := List.mem_of_getElem? hx
      have hfx := HG.out.fast x hxm
      have hsz := HG.out.size_le (get_of_mem HG.out.rise hxm)
      simp only at hfo hlo ht1 ht2 ht0
      obtain ⟨pf, cf, ef⟩ := own_slice hfo
      obtain ⟨pl, cl, el⟩ := own_slice hlo
      rw [ef] at ht1 hfo
      rw [el] at ht2 hlo
      obtain ⟨_, hcf⟩ := own_cap hfo
      obtain ⟨_, hcll⟩ := own_cap hlo
      have hb1 := own_bytes hfo
      have hb2 := own_bytes hlo
      have hn1 := own_none hfo
      have hn2 := own_none hlo
      have hfl := fastB_len hfx
      have hll := looseB_len x.2
      have hsum : (fastB x.2).length + (looseB x.2).length ≤ 4194304 := by omega
      have hkk := crashK_le k 0 s.F
      have HXK := Lib.hid (And.intro hxk (And.intro hrise (And.intro hmem hfx)))
      have HST := Lib.hid (And.intro h2 h3)
      have HE := Lib.hid (And.intro ef el)
      have hl0 : (x.2.b.length - x.2.fast = 0) ↔ (looseB x.2).length = 0 := by rw [hll]
      have HL0 := Lib.hid hl0
      have HFB := Lib.hid (And.intro hfl hll)
      generalize hA : (fastB x.2).length = fa at *
      generalize hB : (looseB x.2).length = lb at *
      have HAB := Lib.hid (And.intro hA hB)
      generalize hK : crashK k 0 s.F = kk at *
      have HKK := Lib.hid hK
      clear hA hB hK hl0 hfl hll hsz ef el h1 h2 h3 hxk hrise hmem hfx hxm hfo hlo hx
      have hba := bel_alloc (Below.refl wr.heap.size wr) (.cells #[.string ⟨x.1.toArray⟩, .slice pf fa cf, .slice pl lb cl] 80)
      have hat : (wr.alloc (.cells #[.string ⟨x.1.toArray⟩, .slice pf fa cf, .slice pl lb cl] 80)).heap[wr.heap.size]? = some (.cells #[.string ⟨x.1.toArray⟩, .slice pf fa cf, .slice pl lb cl] 80 (0, 0)) := allocs_at [.cells #[.string ⟨x.1.toArray⟩, .slice pf fa cf, .slice pl lb cl] 80] wr 0 _ rfl
      have HBA := Lib.hid hba
      have HAT := Lib.hid hat
      clear hba hat
      by_cases hlb : lb = 0
      · have klb : ((lb : Int) == 0) = true := by rw [hlb]; rfl
        have HLB := Lib.hid (HL0.out.2 hlb)
        clear hlb hb1 hb2 hn1 hn2 hz
        go_wp2_with fail
        go_roundw
        case rel =>
          refine ⟨k + 1, by omega, by go_num, ?_, σr, ?_, HFR.out.trans (Fr.of_below HBA.out)⟩
          · rw [HST.out.2, if_pos HLB.out]
          · have e : crSt ps ts (k + 1) s = crSt ps ts k s := by unfold crSt; rw [HST.out.1, if_pos HLB.out]
            rw [e]
            exact ⟨_, _, _, HX.out.below HBA.out⟩
        case measure => simp [intOf]; omega
      · have klb : ((lb : Int) == 0) = false := by rw [beq_eq_false_iff_ne]; omega
        have HLB := Lib.hid (show ¬ (x.2.b.length - x.2.fast = 0) from fun e => hlb (HL0.out.1 e))
        obtain ⟨st, hst⟩ : ∃ st, st = stays ps kk x.2 := ⟨_, rfl⟩
        have hpl := HP.out.len
        have hlbf : x.2.b.length - x.2.fast = lb := HFB.out.2.symm
        have hstle : st ≤ lb := by rw [hst, ← hlbf]; exact stays_le _ _ _
        have HPL := Lib.hid hpl
        have HSTT := Lib.hid (And.intro hst hlbf)
        clear hst hpl hlbf
        go_upto_if 42 with fail
        go_cut [10] (fun v wx => v = .int .i64 (st : Nat) ∧ wx = wr.alloc (.cells #[.string ⟨x.1.toArray⟩, .slice pf fa cf, .slice pl lb cl] 80))
        case first =>
          by_cases hkm : kk < mp
          · obtain ⟨a, rfl, hpc⟩ := HP.out.fr HFR.out kk hkm
            have hpc' := (HBA.out.cell (cell_lt hpc)).trans hpc
            have hst2 : st = ps.getD kk 0 % (lb + 1) := by
              rw [HSTT.out.1]
              unfold stays
              rw [if_pos (by rw [HPL.out]; exact hkm), HSTT.out.2]
            have HST2 := Lib.hid hst2
            have hps : ps.getD kk 0 < 65536 := by
              rw [List.getD_eq_getElem?_getD, List.getElem?_eq_getElem (by rw [HPL.out]; exact hkm)]
              exact HP.out.small _ (List.getElem_mem _)
            clear hst2 hpc
            generalize hP : ps.getD kk 0 = P at *
            clear hP
            go_wp2_with fail
            go_loop [10] (fun z => ∃ v : Nat, z = .int .i64 v ∧ v % (lb + 1) = P % (lb + 1) ∧ v ≤ 65535) (fun z => (intOf z).toNat)
            case atStart => exact ⟨P, rfl, rfl, by omega⟩
            case round =>
              obtain ⟨v, rfl, hv, hv2⟩ := hrel
              have HV := Lib.hid hv
              clear hv
              by_cases hgt : lb < v
              · go_wp2_with fail
                go_round
                case rel => exact ⟨v - (lb + 1), by rw [show (v : Int) - lb - 1 = ((v - (lb + 1) : Nat) : Int) by omega], by rw [← HV.out, ← Nat.mod_eq_sub_mod (by omega)], by omega⟩
                case measure => simp [intOf]; omega
              · have hvs : st = v := by
                  have h := HV.out
                  rw [Nat.mod_eq_of_lt (by omega)] at h
                  rw [HST2.out, ← h]
                have HVS := Lib.hid hvs
                clear hvs
                go_wp2_with fail
                go_meet
                exact ⟨by rw [HVS.out], rfl⟩
          · have hst2 : st = 0 := by
              rw [HSTT.out.1]
              unfold stays
              rw [if_neg (by rw [HPL.out]; exact hkm)]
            have HST2 := Lib.hid hst2
            clear hst2
            go_wp2_with fail
            go_meet
            exact ⟨by rw [HST2.out]; rfl, rfl⟩
        case rest =>
          obtain ⟨rfl, rfl⟩ := hcut
          have HOWN := Lib.hid (show ∀ V, Below wr.heap.size wr V → Calls Tryz.prog 26 #[.slice pl st cl] V (OwnPost V st ((looseB x.2).take st)) from
            fun V hV => own_any V pl st cl _ (bytes_cut (hb2.keep fun y _ hlt => hV.block _ hlt) hstle) hn2 (by omega))
          have HOWN2 := Lib.hid (show ∀ V, Below wr.heap.size wr V → Calls Tryz.prog 26 #[.slice pf fa cf] V (OwnPost V fa (fastB x.2)) from
            fun V hV => own_any V pf fa cf _ (hb1.keep fun y _ hlt => hV.block _ hlt) hn1 (by omega))
          have HBY := Lib.hid hb1
          have hs1 := slice8_pre pl lb cl st (by omega)
          have a0 : (wr.alloc (.cells #[.string ⟨x.1.toArray⟩, .slice pf fa cf, .slice pl lb cl] 80)).cell? ⟨wr.heap.size, 2, none⟩ = some (.slice pl lb cl) := cell_of_block (i := 2) HAT.out
          clear hb1 hb2 hn1 hn2 ht0 ht1 ht2 d0 klb
          go_wp2_with fail
          refine (HOWN.out _ HBA.out).mono ?_
          rintro e w4 ⟨q, d, rfl, hown4, hb4⟩
          have hbx := HBA.out.trans (hb4.mono HBA.out.size)
          have HOWN4 := Lib.hid hown4
          have HB4 := Lib.hid hbx
          have hbox4 := (hb4.block wr.heap.size (Array.getElem?_eq_some_iff.1 HAT.out).1).trans HAT.out
          have HBOX4 := Lib.hid hbox4
          have HTL := Lib.hid HT.out.len
          have htl := HT.out.len
          have hfit := (own_cap hown4).2
          clear hs1 a0 hown4 hb4 hbx hbox4
          obtain ⟨bb, hbb⟩ : ∃ bb : Bool, bb = decide (0 < st ∧ kk < mt) := ⟨_, rfl⟩
          have HBB := Lib.hid hbb
          clear hbb
          go_upto_region 15 with fail
          go_cut [67] (fun v wx => v = .bool bb ∧ w4 = wx)
          case first =>
            by_cases h0 : 0 < st
            · have k0 : decide (0 < st) = true := decide_eq_true h0
              by_cases h1 : kk < mt
              · have k1 : decide (kk < mt) = true := decide_eq_true h1
                have HD := Lib.hid (show bb = true from HBB.out.trans (decide_eq_true ⟨h0, h1⟩))
                clear h0 h1
                go_wp2_with fail
                go_meet
                exact ⟨by rw [HD.out], rfl⟩
              · have k1 : decide (kk < mt) = false := decide_eq_false h1
                have HD := Lib.hid (show bb = false from HBB.out.trans (decide_eq_false fun e => h1 e.2))
                clear h0 h1
                go_wp2_with fail
                go_meet
                exact ⟨by rw [HD.out], rfl⟩
            · have k0 : decide (0 < st) = false := decide_eq_false h0
              have HD := Lib.hid (show bb = false from HBB.out.trans (decide_eq_false fun e => h0 e.1))
              clear h0
              go_wp2_with fail
              go_meet
              exact ⟨by rw [HD.out], rfl⟩
          case rest =>
            obtain ⟨rfl, rfl⟩ := hcut
            have HOWNB := Lib.hid (own_base HOWN4.out (b' := wr.heap.size) fun b hb' => by
              have h1 := (HOWN4.out.lt b hb').1
              have h2 := (Array.getElem?_eq_some_iff.1 HAT.out).1
              omega)
            have HLT := Lib.hid (show ((looseB x.2).take st).length = st from by rw [List.length_take, HAB.out.2]; omega)
            go_upto_if 67 with fail
            go_cut [11] (fun v wy => v = .slice q st d ∧ wy.ownsRow wr.heap.size 5 1 (.slice q st d) st ((looseL ts kk st (looseB x.2)).map encU8) ∧ wy.heap[wr.heap.size]? = some (.cells #[.string ⟨x.1.toArray⟩, .slice pf fa cf, .slice pl lb cl] 80 (0, 0)) ∧ Below wr.heap.size wr wy)
            case first =>
              cases bb with
              | false =>
                go_wp2_with fail
                go_meet
                have hc : ¬ (0 < st ∧ kk < mt) := of_decide_eq_false HBB.out.symm
                have e : looseL ts kk st (looseB x.2) = (looseB x.2).take st := by
                  unfold looseL
                  rw [if_neg (by rw [HTL.out]; exact hc)]
                have ho := HOWNB.out
                rw [HLT.out] at ho
                rw [e]
                exact ⟨rfl, ho, HBOX4.out, HB4.out⟩
              | true =>
                have hc : 0 < st ∧ kk < mt := of_decide_eq_true HBB.out.symm
                obtain ⟨a2, rfl, htc⟩ := HT.out.fr (HFR.out.trans (Fr.of_below HB4.out)) kk hc.2
                obtain ⟨r, hr1, hrq⟩ : ∃ r : Nat, (st : Int) - 1 = (r : Int) ∧ r + 1 = st := ⟨st - 1, by omega, by omega⟩
                have ho := HOWNB.out
                rw [HLT.out] at ho
                rcases ho.2 with ⟨he, hz⟩ | ⟨g2, cap, cur, he, hge, hgb', hc1, hc2, hcs, hct⟩
                · exact absurd hz (by omega)
                simp only [Value.slice.injEq] at he
                obtain ⟨rfl, hes, rfl⟩ := he
                have hcell : w4.cell? ⟨g2, r, none⟩ = some (.int .u8 ((looseB x.2).getD r 0).toNat) := by
                  rw [cell_of_block hgb']
                  have e2 : cur.toList[r]? = (((looseB x.2).take st).map encU8)[r]? := by
                    rw [← hct, List.getElem?_take, if_pos (by omega)]
                  have h1 : r < (looseB x.2).length := by rw [HAB.out.2]; omega
                  rw [← Array.getElem?_toList, e2, List.getElem?_map, List.getElem?_take, if_pos (by omega), List.getD_eq_getElem?_getD, List.getElem?_eq_getElem h1]
                  rfl
                have f6 : w4.frozen? ⟨g2, r, none⟩ = false := frozen_of_block hgb'
                have HOS := Lib.hid ho
                have HRQ := Lib.hid hrq
                have HG2 := Lib.hid hge
                obtain ⟨tb, htb⟩ : ∃ tb, ts.getD kk 0 = tb := ⟨_, rfl⟩
                obtain ⟨lo, hlb2⟩ : ∃ lo, (looseB x.2).getD r 0 = lo := ⟨_, rfl⟩
                rw [htb] at htc
                rw [hlb2] at hcell
                have HTB := Lib.hid htb
                have HLO := Lib.hid hlb2
                have hwr : IntKind.i64.wrap (r : Int) = r := IntWalk.i64_in _ (by omega)
                have hrq' : (r : Int) < (st : Int) := by omega
                have hkm' : (kk : Int) < (mt : Int) := by omega
                have hk0' : (0 : Int) ≤ (kk : Int) := by omega
                have hr0' : (0 : Int) ≤ (r : Int) := by omega
                have hxb := bits_xor_u8 lo tb
                have HC := Lib.hid hc
                clear hes ho hgb' hc1 hc2 hcs hct htb hlb2 hge hrq hc
                go_upto_region 16 with fail
                go_still_tail 14, (by kernel_rfl)
                go_wp2_with fail
                go_meet
                have hlt4 : ∀ b, b ≠ g2 → ((w4.setCell ⟨g2, r, none⟩ (.int .u8 (lo.toNat ^^^ tb.toNat : Nat))).drew).heap[b]? = w4.heap[b]? := fun b hb' => heap_setCell_other _ _ _ _ hb'
                obtain ⟨s1, t1⟩ := HOS.out.stored r (.int .u8 (lo.toNat ^^^ tb.toNat : Nat))
                have e : (((looseB x.2).take st).map encU8).set r (.int .u8 (lo.toNat ^^^ tb.toNat : Nat)) = (looseL ts kk st (looseB x.2)).map encU8 := by
                  unfold looseL
                  rw [if_pos (by rw [HTL.out]; exact HC.out), List.map_set]
                  have h1 : st - 1 = r := by have := HRQ.out; omega
                  rw [h1, HTB.out, HLO.out]
                  congr 1
                rw [e] at s1
                have hg2lt := Array.getElem?_eq_some_iff.1 HAT.out
                refine ⟨rfl, ownsRow_block s1 fun _ _ => rfl, (hlt4 _ ?_).trans HBOX4.out, (HB4.out.grown t1 HB4.out.size fun g hg => by cases hg; exact HG2.out).drew⟩
                intro e2
                have h1 := (HOWN4.out.lt g2 rfl).1
                have h2 := (Array.getElem?_eq_some_iff.1 HAT.out).1
                omega
            case rest =>
              obtain ⟨rfl, hown5, hbox5, hb5⟩ := hcut
              have x1 : wc.cell? ⟨wr.heap.size, 1, none⟩ = some (.slice pf fa cf) := cell_of_block (i := 1) hbox5
              have HOWN5 := Lib.hid hown5
              have HBOX5 := Lib.hid hbox5
              have HB5 := Lib.hid hb5
              clear hown5 hbox5 hb5
              go_wp2_with fail
              refine (HOWN2.out _ HB5.out).mono ?_
              rintro e w6 ⟨q6, d6, rfl, hown6, hb6⟩
              have hbx6 := HB5.out.trans (hb6.mono HB5.out.size)
              have hbox6 := (hb6.block wr.heap.size (Array.getElem?_eq_some_iff.1 HBOX5.out).1).trans HBOX5.out
              have hll5 : (looseL ts kk st (looseB x.2)).length = st := looseL_len _ _ _ _ (by rw [HAB.out.2]; omega)
              have hrow5 : wc.ownsRow wr.heap.size 5 1 (.slice q st d) (looseL ts kk st (looseB x.2)).length ((looseL ts kk st (looseB x.2)).map encU8) := by rw [hll5]; exact HOWN5.out
              have hby5 : BytesAt wc q st (looseL ts kk st (looseB x.2)) := own_bytes hrow5
              obtain ⟨p7, c7, w7, hrun7, hown7, hb7⟩ := own_app (w := wc) (b1 := fastB x.2) (b2 := looseL ts kk st (looseB x.2)) (a := fa) (b := st) (HBY.out.keep fun y _ hlt => HB5.out.block _ hlt) hby5 (own_none hrow5) (by omega) (by rw [HAB.out.1] at hown6; exact hown6) hb6 31
              have hbx7 := HB5.out.trans (hb7.mono HB5.out.size)
              have hbox7 := (hb7.block wr.heap.size (Array.getElem?_eq_some_iff.1 HBOX5.out).1).trans HBOX5.out
              have y0 : w7.cell? ⟨wr.heap.size, 0, none⟩ = some (.string ⟨x.1.toArray⟩) := cell_of_block (i := 0) hbox7
              have y1 : w7.cell? ⟨wr.heap.size, 1, none⟩ = some (.slice pf fa cf) := cell_of_block (i := 1) hbox7
              have y2 : w7.cell? ⟨wr.heap.size, 2, none⟩ = some (.slice pl lb cl) := cell_of_block (i := 2) hbox7
              have yz : ∀ i, w7.frozen? ⟨wr.heap.size, i, none⟩ = false := fun i => frozen_of_block hbox7
              have HLL := Lib.hid hll5
              have HOWN7 := Lib.hid hown7
              have HB7 := Lib.hid hb7
              have HBX7 := Lib.hid hbx7
              have hne7 : ∀ b, Value.ownBlock (.slice p7 (fa + st) c7) = some b → b ≠ wr.heap.size := fun b hb' => by
                have h1 := (hown7.lt b hb').1
                have h2 := (Array.getElem?_eq_some_iff.1 HBOX5.out).1
                omega
              have HNE7 := Lib.hid hne7
              clear x1 hown6 hb6 hbx6 hbox6 hll5 hrow5 hby5 hown7 hb7 hbx7 hbox7 hne7
              go_upto_region 19 with
                first
                | fail
                | (at_builtin; refine wpList_append_run rfl _ _ 31 rfl _ _ _ rfl rfl hrun7 ?_)
              obtain ⟨w8, hw8⟩ : ∃ w8, w8 = (w7.setCell ⟨wr.heap.size, 1, none⟩ (.slice p7 (fa + st) c7)).setCell ⟨wr.heap.size, 2, none⟩ (.slice none 0 0) := ⟨_, rfl⟩
              have hk8 : ∀ b, b ≠ wr.heap.size → w8.heap[b]? = w7.heap[b]? := fun b hb' => by rw [hw8]; rw [heap_setCell_other _ _ _ _ hb', heap_setCell_other _ _ _ _ hb']
              have c0 : w8.cell? ⟨wr.heap.size, 0, none⟩ = some (.string ⟨x.1.toArray⟩) := by rw [hw8]; rw [World.cell?_setCell_other _ _ _ _ (by intro e; simp at e), World.cell?_setCell_other _ _ _ _ (by intro e; simp at e)]; exact y0
              have c1 : w8.cell? ⟨wr.heap.size, 1, none⟩ = some (.slice p7 (fa + st) c7) := by rw [hw8]; rw [World.cell?_setCell_other _ _ _ _ (by intro e; simp at e)]; exact World.cell?_setCell_same' _ _ _ (by rw [y1]; rfl)
              have c2 : w8.cell? ⟨wr.heap.size, 2, none⟩ = some (.slice none 0 0) := by rw [hw8]; exact World.cell?_setCell_same' _ _ _ (by rw [World.cell?_setCell_other _ _ _ _ (by intro e; simp at e), y2]; rfl)
              have hsz8 : w8.heap.size = w7.heap.size := by rw [hw8]; simp only [World.size_setCell]
              have ho8 : Only σr wr w8 := by rw [hw8]; exact ((Only.of_below HBX7.out).setCell (.inr (Nat.le_refl _)) _).setCell (.inr (Nat.le_refl _)) _
              rw [← hw8]
              clear hw8 y0 y1 y2 yz hrun7
              have hX7 := HX.out.below HBX7.out
              have hrd := HX.out.rdlt
              have dd : w8.cell? ⟨rd, 0, none⟩ = some (.slice (some ⟨g, 0, none⟩) len c) := by
                rw [World.cell?_of_block (w := w7) (a := ⟨rd, 0, none⟩) (hk8 rd (by omega))]
                exact hX7.d0
              obtain ⟨g', c'', hv, t0, t1, t2, tz, _, _⟩ := hX7.tri HXK.out.1
              simp only [Value.slice.injEq, Option.some.injEq, Addr.mk.injEq, and_true] at hv
              obtain ⟨rfl, hv1, rfl⟩ := hv
              clear hv1
              have hgl : g < wr.heap.size := by
                obtain ⟨r, e⟩ := HX.out.rr g rfl
                exact HX.out.lt g r e
              have hg8 := hk8 g (by omega)
              have t0' := (World.cell?_of_block (w := w7) (w' := w8) (a := ⟨g, k * 3, none⟩) hg8).trans t0
              have t1' := (World.cell?_of_block (w := w7) (w' := w8) (a := ⟨g, k * 3 + 1, none⟩) hg8).trans t1
              have t2' := (World.cell?_of_block (w := w7) (w' := w8) (a := ⟨g, k * 3 + 2, none⟩) hg8).trans t2
              have z0' := (World.frozen?_of_block (w := w7) (w' := w8) (a := ⟨g, k * 3, none⟩) hg8).trans (tz _)
              have z1' := (World.frozen?_of_block (w := w7) (w' := w8) (a := ⟨g, k * 3 + 1, none⟩) hg8).trans (tz _)
              have z2' := (World.frozen?_of_block (w := w7) (w' := w8) (a := ⟨g, k * 3 + 2, none⟩) hg8).trans (tz _)
              have HK8 := Lib.hid hk8
              have HO8 := Lib.hid ho8
              have HSZ8 := Lib.hid (And.intro hsz8 (And.intro hrd hgl))
              have hj0 : (0 : Int) ≤ (k : Int) := by omega
              have hjk : (k : Int) < (len : Int) := by omega
              clear t0 t1 t2 tz hg8 hk8 ho8 hsz8 hrd hgl hX7
              go_still_tail 7, (by kernel_rfl)
              go_wp2_with fail
              clear c0 c1 c2 dd t0' t1' t2' z0' z1' z2'
              go_roundw
              case rel =>
                obtain ⟨hx9, ho9⟩ := HX.out.storeFile HX.out HXK.out.2.1 HXK.out.1 (f' := crash1 ps ts kk x.2) (w6 := w8)
                  (fun b ⟨r, e⟩ => (HK8.out b (by have := HX.out.lt b r e; omega)).trans (HBX7.out.block b (HX.out.lt b r e))) HO8.out (by rw [HSZ8.out.1]; exact HBX7.out.size) (vf := .slice p7 (fa + st) c7) (vl := .slice none 0 0)
                  (by
                    have e := (crash1_fastB ps ts kk HXK.out.2.2.2).1
                    rw [← HSTT.out.1] at e
                    have el : (fastB (crash1 ps ts kk x.2)).length = fa + st := by rw [e, List.length_append, HLL.out, HAB.out.1]
                    rw [el, e]
                    exact ownsRow_block (own_base HOWN7.out fun b _ => Nat.zero_le _) fun b hb' => HK8.out b (HNE7.out b hb'))
                  (fun b hb' => .inr (Nat.le_trans HB5.out.size (HOWN7.out.lt b hb').1))
                  (fun b hb' e => by have h1 := (HOWN7.out.lt b hb').1; have h2 := HB5.out.size; have h3 := HSZ8.out.2.2; omega)
                  (by rw [(crash1_fastB ps ts kk HXK.out.2.2.2).2]; exact World.ownsRow_nil _ _ _ _) (fun b hb' => by cases hb') (fun b hb' => by cases hb') rfl
                refine ⟨k + 1, by omega, by go_num, ?_, newσ σr wr _, ?_, HFR.out.trans ho9.fr⟩
                · rw [HST.out.2, if_neg HLB.out]
                  go_num
                · have e : crSt ps ts (k + 1) s = { crSt ps ts k s with F := setF x.1 (crash1 ps ts kk x.2) (crSt ps ts k s).F } := by
                    unfold crSt
                    rw [HST.out.1, if_neg HLB.out]
                  rw [e]
                  exact ⟨_, _, _, hx9⟩
              case measure => simp [intOf]; omega
    · obtain rfl : k = len := by omega
      go_wp2_with fail
      go_end0
      refine ⟨rfl, σr, ?_, HFR.out⟩
      have e : crSt ps ts k s = crash ps ts s := by
        unfold crSt crash
        rw [← HL.out, crashT_all]
      rw [← e]
      exact ⟨_, _, _, HX.out⟩
end
end Go.Proofs.YtjlchphbkmaacaaGreatDoor
