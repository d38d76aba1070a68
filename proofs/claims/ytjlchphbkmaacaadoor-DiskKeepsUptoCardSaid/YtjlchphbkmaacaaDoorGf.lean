/- DiskKeeps: the walk. -/
import Derived.Test.YtjlchphbkmaacaaDoorGe
import Derived.Deep.DeepCutAuto
import Derived.Deep.CutBlock
import Derived.IntWalk
import Derived.Deep.QuietTactic
import Derived.BigQuiet
import Derived.Deep.RegionHeld3
set_option linter.unusedVariables false
set_option linter.unusedSimpArgs false
namespace Go.Proofs.YtjlchphbkmaacaaDoor
open Go.RowKit Go.MapKept Go.ChangeMaps Go.Maps
attribute [local go_sem ↓] Go.wp_at_zero Go.wp_at_succ
open Dk

theorem Dk.PicksAt.move {ρ : Nat → Option Role} {w wr : World} {p : Option Addr} {m : Nat} {ps : List Nat} (h : PicksAt (fun _ => none) w p m ps) (hb : Below w.heap.size w wr) (hρ : ∀ b, b < w.heap.size → ρ b = none) : PicksAt ρ wr p m ps :=
  ⟨h.len, h.small, fun j hj => by
    obtain ⟨a, e, hc⟩ := h.cells j hj
    exact ⟨a, e, (hb.cell (cell_lt hc)).trans hc⟩, fun h0 a e => by
    obtain ⟨a', e', hc⟩ := h.cells 0 h0
    rw [e] at e'
    cases e'
    have := cell_lt hc
    rw [add_block] at this
    exact hρ _ this⟩
theorem Dk.BytesAt.torn {ρ : Nat → Option Role} {w wr : World} {p : Option Addr} {m : Nat} {ts : List UInt8} (h : BytesAt w p m ts) (hb : Below w.heap.size w wr) (hρ : ∀ b, b < w.heap.size → ρ b = none) : TornAt ρ wr p m ts :=
  ⟨h.len, fun j hj => by
    obtain ⟨a, e, hc⟩ := bytes_torn h hj
    exact ⟨a, e, (hb.cell (cell_lt hc)).trans hc⟩, fun h0 a e => by
    obtain ⟨a', e', hc⟩ := bytes_torn h h0
    rw [e] at e'
    cases e'
    have := cell_lt hc
    rw [add_block] at this
    exact hρ _ this⟩

theorem picks_own {ρ : Nat → Option Role} {w : World} {B m d : Nat} {q : Option Addr} {ts : List UInt8} (h : w.ownsRow B 59 1 (.slice q m d) m (ts.map encU16)) (hρ : ∀ b, Value.ownBlock (.slice q m d) = some b → ρ b = none) : PicksAt ρ w q m (ts.map UInt8.toNat) := by
  have hl := ownsRow_len h
  rw [List.length_map] at hl
  refine ⟨by rw [List.length_map, hl], fun x hx => ?_, fun j hj => ?_, fun h0 a e => ?_⟩
  · obtain ⟨c, _, rfl⟩ := List.mem_map.1 hx
    have := c.toNat_lt
    omega
  · obtain ⟨g, c, e, _, _⟩ := h.form (by omega)
    simp only [Value.slice.injEq] at e
    obtain ⟨rfl, _, rfl⟩ := e
    have hjl : j < ts.length := by omega
    exact ⟨_, rfl, h.cells rfl j _ (by rw [List.getElem?_map, List.getElem?_eq_getElem hjl, List.getD_eq_getElem?_getD, List.getElem?_map, List.getElem?_eq_getElem hjl]; rfl)⟩
  · obtain ⟨g, c, e', _, _⟩ := h.form h0
    simp only [Value.slice.injEq] at e'
    obtain ⟨rfl, _, rfl⟩ := e'
    cases e
    exact hρ _ rfl
/-- What the first k files have in F1, and the others in F. -/
def mix (F F1 : List (Nm × Fi)) (k : Nat) : List (List UInt8) := (F1.take k ++ F.drop k).map (·.2.b)
theorem mix_length {F F1 : List (Nm × Fi)} (h : F1.length = F.length) {k : Nat} : (mix F F1 k).length = F.length := by
  unfold mix
  rw [List.length_map, List.length_append, List.length_take, List.length_drop, h]
  omega
theorem mix_at {F F1 : List (Nm × Fi)} {k : Nat} {x : Nm × Fi} (hx : F[k]? = some x) (h : F1.length = F.length) : (mix F F1 k)[k]? = some x.2.b := by
  have hk := (List.getElem?_eq_some_iff.1 hx).1
  unfold mix
  rw [List.getElem?_map, List.getElem?_append_right (by rw [List.length_take]; omega), List.length_take, List.getElem?_drop]
  rw [show k + (k - min k F1.length) = k by omega, hx]
  rfl
theorem mix_set {F F1 : List (Nm × Fi)} {k : Nat} {y : Nm × Fi} (hy : F1[k]? = some y) (h : F1.length = F.length) : (mix F F1 k).set k y.2.b = mix F F1 (k + 1) := by
  obtain ⟨hk, e⟩ := List.getElem?_eq_some_iff.1 hy
  unfold mix
  rw [List.take_succ_eq_append_getElem hk, e, List.drop_eq_getElem_cons (i := k) (by omega)]
  rw [List.map_append, List.map_append, List.map_append, List.map_cons, List.append_assoc]
  have hl : (List.map (fun x : Nm × Fi => x.2.b) (F1.take k)).length = k := by rw [List.length_map, List.length_take]; omega
  rw [List.set_append_right _ _ (by omega), hl, Nat.sub_self]
  rfl
theorem mix_all {F F1 : List (Nm × Fi)} (h : F1.length = F.length) : mix F F1 F.length = F1.map (·.2.b) := by
  unfold mix
  rw [List.drop_length, List.append_nil, ← h, List.take_length]

/-- How things stand while calls are made. -/
def KeepsR (w : World) (bd : Nat) (wr : World) : Prop := ∃ s, At w bd s wr ∧ Fine s ∧ Mays s ∧ Dk.Lit s

set_option maxRecDepth 100000 in
set_option maxHeartbeats 4000000 in
theorem keeps_any (w : World) (pl : Option Addr) (ml cl : Nat) (hl : ActsAt w pl ml) (hm : ml ≤ 140737488355328) (pp : Option Addr) (mp cp : Nat) (ps : List Nat) (hp : PicksAt (fun _ => none) w pp mp ps)
    (pt : Option Addr) (mt ct : Nat) (ts : List UInt8) (ht : BytesAt w pt mt ts) (htm : mt ≤ 1048576) :
    Calls Tryd.prog 3 #[.slice pl ml cl, .slice pp mp cp, .slice pt mt ct] w (TruePost w) := by
  have HL := Lib.hid hl
  have HP := Lib.hid hp
  have HT := Lib.hid ht
  clear hl hp ht
  go_enter Tryd.func3, Tryd.ntmps3
  go_wp2_with fail
  refine (new_any 4194304 w).mono ?_
  rintro e w1 hp
  unfold NewPost at hp
  rw [if_pos (by decide)] at hp
  obtain ⟨ρ1, bd, rfl, hr1, hρ, hb1⟩ := hp
  have HA := Lib.hid (show At w bd (fresh 4194304) w1 from ⟨ρ1, hr1, hρ, hb1⟩)
  clear hr1 hρ hb1
  go_wp2_with fail
  refine (awake_any _).mono ?_
  rintro e w2 ⟨rfl, hb2⟩
  have HK := Lib.hid (show KeepsR w bd w2 from ⟨_, HA.out.below hb2, fine0 (by decide) (by decide), (fun x hx => by cases hx), rfl, rfl⟩)
  clear HA hb2
  go_upto_block 0 with fail
  go_cut [9] (fun s9 wx => KeepsR w bd wx)
  case first =>
    go_wp2_with fail
    go_loopw [39] (fun i wr => ∃ k : Nat, k ≤ ml ∧ i = .int .i64 k ∧ KeepsR w bd wr) (fun i _ => ml - (intOf i).toNat)
    case atStart => exact ⟨0, Nat.zero_le _, rfl, HK.out⟩
    case round =>
      obtain ⟨k, hk, rfl, s, ha, hg, hmy, hlt'⟩ := hrel
      have HA := Lib.hid ha
      have HG := Lib.hid (And.intro hg (And.intro hmy hlt'))
      clear ha hg hmy hlt'
      by_cases hlt : k < ml
      · obtain ⟨b, o, A, rfl, hab, hin, d0, d1, d2, d3, d4, d5⟩ := HL.out.each k hlt
        obtain ⟨_, _, _, hbl⟩ := HA.out
        have e0 := (hbl.cell (cell_lt d0)).trans d0
        have e1 := (hbl.cell (cell_lt d1)).trans d1
        have e2 := (hbl.cell (cell_lt d2)).trans d2
        have e3 := (hbl.cell (cell_lt d3)).trans d3
        have e4 := (hbl.cell (cell_lt d4)).trans d4
        have e5 := (hbl.cell (cell_lt d5)).trans d5
        have HIN := Lib.hid hin
        clear hin d0 d1 d2 d3 d4 d5 hbl hab
        have hb := bel_alloc (Below.refl wr.heap.size wr) (.cells #[.int .i64 A.what, .string A.nm, .string A.ot, .slice A.pb A.mb A.cb, .int .i64 A.n, .slice A.pp A.mp A.cp] 31)
        have HA1 := Lib.hid (HA.out.below hb)
        clear hb
        by_cases hk1 : k = 100
        · subst hk1
          go_wp2_with fail
          go_meet
          exact ⟨s, HA1.out, HG.out.1, HG.out.2.1, HG.out.2.2⟩
        have hkne : ((k : Int) == 100) = false := by rw [beq_eq_false_iff_ne]; omega
        by_cases h7 : A.what = 7
        · have k7 : (A.what == 7) = true := by rw [h7]; rfl
          have k7' : (A.what != 7) = false := by rw [h7]; rfl
          clear h7
          go_wp2_with fail
          go_roundw
          case rel => exact ⟨k + 1, by omega, by go_num, s, HA1.out, HG.out.1, HG.out.2.1, HG.out.2.2⟩
          case measure => simp [intOf]; omega
        · have k7 : (A.what == 7) = false := beq_eq_false_iff_ne.2 h7
          have k7' : (A.what != 7) = true := by rw [bne, k7]; rfl
          have H7 := Lib.hid h7
          clear h7
          go_wp2_with fail
          obtain ⟨z, s', hr⟩ : ∃ z s', doF A s = (z, s') := ⟨_, _, rfl⟩
          have hg' : Fine s' ∧ Mays s' ∧ Dk.Lit s' := by
            have h1 := HG.out.1.doF A HIN.out.n1
            have h2 := HG.out.2.1.doF A
            have h3 := HG.out.2.2.doF A H7.out
            rw [hr] at h1 h2 h3
            exact ⟨h1, h2, h3⟩
          have HG' := Lib.hid hg'
          refine (HA1.out.call2 (fun ρ bm blk dv hρ hbl hx => do_any hx HG.out.1 A (HIN.out.ok hρ hbl)) hr).mono ?_
          clear hr hg' e0 e1 e2 e3 e4 e5
          rintro e w4 ⟨rfl, ha4⟩
          have HA4 := Lib.hid ha4
          clear ha4
          go_wp2_with fail
          go_roundw
          case rel => exact ⟨k + 1, by omega, by go_num, s', HA4.out, HG'.out.1, HG'.out.2.1, HG'.out.2.2⟩
          case measure => simp [intOf]; omega
      · obtain rfl : k = ml := by omega
        go_wp2_with fail
        go_meet
        exact ⟨s, HA.out, HG.out.1, HG.out.2.1, HG.out.2.2⟩
  case rest =>
    obtain ⟨s, ha, hg, hmy, hlit⟩ := hcut
    obtain ⟨ρ, ⟨bm, blk, dv, hx⟩, hold, hbel⟩ := ha
    have HX := Lib.hid hx
    have HG := Lib.hid (And.intro hg (And.intro hmy hlit))
    have HO := Lib.hid (And.intro hold hbel)
    clear hx hg hmy hlit hold hbel HK
    go_wp2_with fail
    refine (names_any HX.out HG.out.1).mono ?_
    rintro e w3 ⟨v, rfl, hrow, hb, _⟩
    obtain ⟨pn, cn, rfl⟩ := own_slice hrow
    have hkp : Kp ρ w w3 bd s (names s) (.slice pn (names s).length cn) (.slice none 0 0) (.slice none 0 0) [] [] :=
      ⟨(Rep.below ⟨bm, blk, dv, HX.out⟩ hb), HO.out.1, HO.out.2.trans (hb.mono HO.out.2.size), ⟨by rw [List.length_map]; exact own_base hrow fun g hg => Nat.le_trans HO.out.2.size (hrow.lt g hg).1, fun g hg => HX.out.fresh (hrow.lt g hg).1⟩,
        ⟨[], ⟨World.ownsRow_nil _ _ _ _, fun g hg => by cases hg⟩, rfl, fun j g hg => by simp at hg⟩, ⟨World.ownsRow_nil _ _ _ _, fun g hg => by cases hg⟩⟩
    have hnm : names s = s.F.map (·.1) := names_lit HG.out.2.2
    have hnl : (names s).length = s.F.length := by rw [hnm, List.length_map]
    have hn5 := HG.out.1.files
    rw [hnl] at hkp
    rw [hnl]
    have HKP := Lib.hid hkp
    have HNM := Lib.hid hnm
    clear hrow hb hkp hnm hnl
    generalize hn : s.F.length = n at *
    have HN := Lib.hid hn
    clear hn
    go_wp2_with fail
    go_loopw [12, 13, 57] (fun a b i wr => ∃ k : Nat, k ≤ n ∧ i = .int .i64 k ∧ Kp ρ w wr bd s (names s) (.slice pn n cn) a b ((s.F.take k).map (·.2.b)) ((s.F.take k).map fun x => x.2.b.length - x.2.fast)) (fun _ _ i _ => n - (intOf i).toNat)
    case atStart => exact ⟨0, Nat.zero_le _, rfl, HKP.out⟩
    case round =>
      obtain ⟨k, hk, rfl, hkp⟩ := hrel
      have HK := Lib.hid hkp
      clear hkp
      by_cases hlt : k < n
      · obtain ⟨x, hx⟩ : ∃ x, s.F[k]? = some x := ⟨_, List.getElem?_eq_getElem (by rw [HN.out]; exact hlt)⟩
        have HX := Lib.hid hx
        obtain ⟨gn, cc, hv, hcell, _, _⟩ := HK.out.nm.cell (j := k) (u := encStr x.1) (by rw [HNM.out, List.map_map, List.getElem?_map, hx]; rfl)
        simp only [Value.slice.injEq] at hv
        obtain ⟨rfl, hv0, rfl⟩ := hv
        clear hv0
        have hcell' : wr.cell? ⟨gn, k, none⟩ = some (.string ⟨x.1.toArray⟩) := hcell
        clear hcell hx
        go_wp2_with fail
        refine (HK.out.read HG.out.1 HG.out.2.1 HG.out.2.2 HX.out).mono ?_
        rintro e w4 ⟨p, c, rfl, hrow, hkp, hbb⟩
        clear hcell'
        have HR := Lib.hid hrow
        have HKP := Lib.hid hkp
        clear hrow hkp hbb HK
        have hG5 : ((s.F.take k).map (·.2.b)).length ≤ 512 := by rw [List.length_map, List.length_take]; omega
        have hL5 : ((s.F.take k).map fun x => x.2.b.length - x.2.fast).length ≤ 512 := by rw [List.length_map, List.length_take]; omega
        obtain ⟨a', w5, hrun, hkp5⟩ := HKP.out.push1 HR.out hG5 35
        have HK5 := Lib.hid hkp5
        clear hkp5 hG5
        go_wp2_with (first
          | (at_builtin; refine wpList_append_run rfl _ _ 35 rfl _ _ _ rfl rfl hrun ?_)
          | fail)
        clear hrun
        refine (HK5.out.loose HG.out.1 HG.out.2.1 HG.out.2.2 HX.out).mono ?_
        rintro e w6 ⟨rfl, hkp, hbb⟩
        have HK6 := Lib.hid hkp
        clear hkp hbb
        obtain ⟨b', w7, hrun, hkp7⟩ := HK6.out.push2 (x.2.b.length - x.2.fast) hL5 36
        have HK7 := Lib.hid hkp7
        clear hkp7 hL5
        generalize hlo : x.2.b.length - x.2.fast = lo at *
        have HLO := Lib.hid hlo
        clear hlo
        go_wp2_with (first
          | (at_builtin; refine wpList_append_run rfl _ _ 36 rfl _ _ _ rfl rfl hrun ?_)
          | fail)
        clear hrun
        go_roundw
        case rel =>
          have h := HK7.out
          rw [← HLO.out] at h
          have hl : k < s.F.length := by rw [HN.out]; exact hlt
          have e : s.F[k] = x := by have := HX.out; rw [List.getElem?_eq_getElem hl] at this; exact Option.some.inj this
          have e1 : (s.F.take (k + 1)).map (·.2.b) = (s.F.take k).map (·.2.b) ++ [x.2.b] := by rw [List.take_succ_eq_append_getElem hl, List.map_append, e]; rfl
          have e2 : ((s.F.take (k + 1)).map fun x => x.2.b.length - x.2.fast) = ((s.F.take k).map fun x => x.2.b.length - x.2.fast) ++ [x.2.b.length - x.2.fast] := by rw [List.take_succ_eq_append_getElem hl, List.map_append, e]; rfl
          rw [← e1, ← e2] at h
          exact ⟨k + 1, by omega, by go_num, h⟩
        case measure => simp [intOf]; omega
      · obtain rfl : k = n := by omega
        have hall : s.F.take k = s.F := List.take_of_length_le (by rw [HN.out]; exact Nat.le_refl _)
        rw [hall] at HK
        clear hall
        go_wp2_with fail
        refine (HK.out.crash HG.out.1 pp mp cp ps (HP.out.move HK.out.bel HK.out.old) pt mt ct ts (HT.out.torn HK.out.bel HK.out.old)).mono ?_
        rintro e w4 ⟨rfl, ρ', hkp⟩
        have HK1 := Lib.hid hkp
        clear hkp
        have hg1 : Fine (crash ps ts s) ∧ Mays (crash ps ts s) ∧ Dk.Lit (crash ps ts s) := ⟨HG.out.1.crash _ _, HG.out.2.1.crash _ _, rfl, rfl⟩
        have HG1 := Lib.hid hg1
        have hn1 : names (crash ps ts s) = names s := by
          rw [names_lit HG1.out.2.2, HNM.out]
          exact crashF_names _ _ _ _
        have HN1 := Lib.hid hn1
        clear hg1 hn1
        go_wp2_with fail
        refine (HK1.out.names HG1.out.1 HN1.out).mono ?_
        rintro e w5 ⟨p5, c5, rfl, hst, hkp, _⟩
        have HK5 := Lib.hid hkp
        have HST := Lib.hid hst
        clear hkp hst
        have hnl : (names s).length = k := by rw [HNM.out, List.length_map, HN.out]
        rw [hnl]
        go_wp2_with fail
        have hsame := same_any w5 p5 pn c5 cn (names s) (names s) HST.out (StrsAt.of_own (base := w.heap.size) (by have h := HK5.out.nm.own; rw [List.length_map] at h; rw [hnl] at h ⊢; exact h)) (by omega)
        rw [hnl] at hsame
        refine hsame.mono ?_
        clear hsame hnl HST
        rintro e w6 ⟨rfl, hb6⟩
        have HK6 := Lib.hid (HK5.out.below hb6)
        clear hb6
        rw [show (names s == names s) = true from beq_self_eq_true _]
        go_wp2_with fail
        have hmix0 : (s.F.map (·.2.b)) = mix s.F (crash ps ts s).F 0 := by simp [mix]
        rw [hmix0] at HK6
        have HC := Lib.hid (show ∀ (j : Nat) (x : Nm × Fi), s.F[j]? = some x → ∃ g, (crash ps ts s).F[j]? = some (x.1, g) ∧ Kept x.2 g from fun j x hx => crash_kept HG.out.1 ps ts hx)
        have HC2 := Lib.hid (show ∀ p2 t2, crash p2 t2 (crash ps ts s) = crash ps ts s from fun p2 t2 => crash_crash HG.out.1 ps ts p2 t2)
        have HLF := Lib.hid (show (crash ps ts s).F.length = k from by
          have h := congrArg List.length (crashF_names ps ts 0 s.F)
          rw [List.length_map, List.length_map, HN.out] at h
          exact h)
        clear HK1 HK5 hmix0
        generalize crash ps ts s = s1 at *
        go_loopw [91] (fun i wr => ∃ j : Nat, j ≤ k ∧ i = .int .i64 j ∧ Kp ρ' w wr bd s1 (names s) (.slice pn k cn) u12 u13 (mix s.F s1.F j) (s.F.map fun x => x.2.b.length - x.2.fast)) (fun i _ => k - (intOf i).toNat)
        case atStart => exact ⟨0, Nat.zero_le _, rfl, HK6.out⟩
        case round =>
          obtain ⟨j, hj, rfl, hkp⟩ := hrel
          have HK := Lib.hid hkp
          clear hkp HK6
          by_cases hlt : j < k
          · obtain ⟨x, hx⟩ : ∃ x, s.F[j]? = some x := ⟨_, List.getElem?_eq_getElem (by rw [HN.out]; exact hlt)⟩
            obtain ⟨g, hx1, hkept⟩ := HC.out j x hx
            have HX := Lib.hid hx
            have HX1 := Lib.hid hx1
            have HKE := Lib.hid hkept
            obtain ⟨gn, cc, hv, hcell, _, _⟩ := HK.out.nm.cell (j := j) (u := encStr x.1) (by rw [HNM.out, List.map_map, List.getElem?_map, hx]; rfl)
            simp only [Value.slice.injEq] at hv
            obtain ⟨rfl, hv0, rfl⟩ := hv
            clear hv0
            have hcell' : wr.cell? ⟨gn, j, none⟩ = some (.string ⟨x.1.toArray⟩) := hcell
            clear hcell hx hx1 hkept
            go_wp2_with fail
            refine (HK.out.read HG1.out.1 HG1.out.2.1 HG1.out.2.2 HX1.out).mono ?_
            rintro e w7 ⟨p, c, rfl, hrow, hkp, hbb⟩
            clear hcell'
            have HR := Lib.hid hrow
            have HKP := Lib.hid hkp
            clear hrow hkp hbb HK
            obtain ⟨vs, hvs, hvl, hve⟩ := HKP.out.was
            obtain ⟨v, hvj, hvr⟩ := hve j x.2.b (mix_at HX.out (by rw [HLF.out, HN.out]))
            obtain ⟨ga, ca, ha, hcA, hfA, _⟩ := hvs.cell hvj
            have hvk : vs.length = k := by rw [hvl, mix_length (by rw [HLF.out, HN.out]), HN.out]
            rw [hvk] at ha
            subst ha
            obtain ⟨p2, c2, rfl⟩ := hvr.form
            rw [List.length_map] at hcA hvr
            obtain ⟨gb, cb, hbv, hcB, _, _⟩ := HKP.out.ls.cell (j := j) (u := intV (x.2.b.length - x.2.fast)) (by rw [List.map_map, List.getElem?_map, HX.out]; rfl)
            rw [List.length_map, List.length_map, HN.out] at hbv
            subst hbv
            have HVR := Lib.hid hvr
            have hkl := HKE.out.low
            have hfl := HG.out.1.fast x (List.mem_of_getElem? HX.out)
            have hsz := HG.out.1.size_le (get_of_mem HG.out.1.rise (List.mem_of_getElem? HX.out))
            clear hvs hvl hve hvj hvr hvk
            have hcB' : w7.cell? ⟨gb, j, none⟩ = some (.int .i64 ((x.2.b.length - x.2.fast : Nat) : Int)) := hcB
            clear hcB
            have hj0 : (0 : Int) ≤ (j : Int) := by omega
            have hjk : (j : Int) < (k : Int) := by omega
            obtain ⟨f, hf⟩ : ∃ f, f = x.2.fast := ⟨_, rfl⟩
            obtain ⟨lo, hlo⟩ : ∃ lo, lo = x.2.b.length - x.2.fast := ⟨_, rfl⟩
            obtain ⟨m2, hm2⟩ : ∃ m2, m2 = x.2.b.length := ⟨_, rfl⟩
            have hlf : (m2 : Int) - lo = f := by omega
            have hw : IntKind.i64.wrap ((m2 : Int) - lo) = f := by rw [hlf]; exact IntWalk.i64_in _ (by omega)
            rw [← hlo] at hcB'
            rw [← hm2] at hcA
            have HM := Lib.hid (And.intro hf (And.intro hlo hm2))
            clear hf hlo hm2 hlf
            go_upto_region 29 with fail
            go_quiet (fail)
            clear hw hcB'
            obtain ⟨hb1, hcc, hcm, hpc⟩ := HR.out.bytes
            obtain ⟨hb2, hcc2, hcm2, hpc2⟩ := HVR.out.bytes
            have hfg : f ≤ g.b.length := by have := HM.out.1; omega
            have hgm : g.b.length ≤ m2 := by have := HKE.out.high; have := HM.out.2.2; omega
            have hm2x : x.2.b.length = m2 := HM.out.2.2.symm
            have hm2b : m2 ≤ 4194304 := by omega
            have hc2m : m2 ≤ c2 := by omega
            rw [hm2x] at hb2
            have hs1 := slice_prefix p g.b.length c f (by omega)
            have hs2 := slice_prefix p2 m2 c2 f (by omega)
            have hz1 : g.b.length - g.fast = 0 := by have := HKE.out.synced; omega
            have hlo : ∀ V, Below w7.heap.size w7 V → Calls Tryd.prog 11 #[.pointer (some ⟨bd, 0, none⟩), .string ⟨x.1.toArray⟩] V (fun e w' => e = .returned (.int .i64 0) ∧ Below w7.heap.size w7 w') := fun V hV =>
              ((HKP.out.below hV).loose HG1.out.1 HG1.out.2.1 HG1.out.2.2 HX1.out).mono fun e w' ⟨he, _, hb⟩ => ⟨by rw [he]; simp only; rw [hz1]; rfl, hV.trans (hb.mono hV.size)⟩
            have heq : ∀ V, Below w7.heap.size w7 V → Calls Tryd.prog 14 #[.slice p f c, .slice p2 f c2] V (fun e w' => e = .returned (.bool true) ∧ w' = V) := fun V hV => by
              have h1 := ((hb1.cut hfg).keep fun a _ hlt => hV.block _ hlt).bin
              have h2 := ((hb2.cut (k := f) (by omega)).keep fun a _ hlt => hV.block _ hlt).bin
              have e : g.b.take f = x.2.b.take f := by rw [HM.out.1]; exact HKE.out.first
              rw [← e] at h2
              have hl : ((g.b.take f).map fun c => (c.toNat : Int)).length = f := by rw [List.length_map, List.length_take]; omega
              refine (equal_any p p2 f c f c2 _ _ V hl hl h1 h2).mono fun e w' ⟨he, hw⟩ => ⟨?_, hw⟩
              rw [he, beq_self_eq_true]
            have HSC := Lib.hid (show ∀ V, Below w7.heap.size w7 V → V.cell? ⟨ga, j, none⟩ = some (.slice p2 m2 c2) ∧ Below w7.heap.size w7 V from fun V hV => ⟨(hV.cell (cell_lt hcA)).trans hcA, hV⟩)
            have HLO' := Lib.hid hlo
            have HEQ' := Lib.hid heq
            have c1 : decide (g.b.length < f) = false := by rw [decide_eq_false_iff_not]; omega
            have c2' : decide (m2 < g.b.length) = false := by rw [decide_eq_false_iff_not]; omega
            clear hlo heq hz1 hm2x
            go_upto_region 30 with fail
            go_cut [148] (fun v wx => v = .bool false ∧ Below w7.heap.size w7 wx)
            case first =>
              go_region_held3 (fun w' => w'.cell? ⟨ga, j, none⟩ = some (.slice p2 m2 c2) ∧ Below w7.heap.size w7 w') (exact HSC.out _ (by repeat (first | assumption | exact Below.refl _ _ | exact below_drewN _ _ | apply Below.drew)))
                (first
                  | (go_at_call 11; refine (HLO'.out _ ?_).mono ?_; (repeat (first | assumption | exact Below.refl _ _ | exact below_drewN _ _ | apply Below.drew)); rintro e w' ⟨rfl, hbx⟩)
                  | (go_at_call 14; refine (HEQ'.out _ ?_).mono ?_; (repeat (first | assumption | exact Below.refl _ _ | exact below_drewN _ _ | apply Below.drew)); rintro e w' ⟨rfl, rfl⟩))
              all_goals
                go_wp2_with fail
                go_meet
                exact ⟨rfl, by assumption⟩
            case rest =>
              obtain ⟨rfl, hbx⟩ := hcut
              clear c1 c2' hs1 hs2
              have HBX := Lib.hid hbx
              clear hbx
              by_cases hgt : f < g.b.length
              · have c3 : decide (f < g.b.length) = true := by rw [decide_eq_true_iff]; exact hgt
                have hm1 : ((g.b.length - 1 : Nat) : Int) = (g.b.length : Int) - 1 := by omega
                have hw1 : IntKind.i64.wrap ((g.b.length : Int) - 1) = ((g.b.length - 1 : Nat) : Int) := by rw [hm1]; exact IntWalk.i64_in _ (by omega)
                have hs3 := slice_prefix p g.b.length c (g.b.length - 1) (by omega)
                have hs4 := slice_prefix p2 m2 c2 (g.b.length - 1) (by omega)
                have heq : ∀ V, Below w7.heap.size w7 V → Calls Tryd.prog 14 #[.slice p (g.b.length - 1) c, .slice p2 (g.b.length - 1) c2] V (fun e w' => e = .returned (.bool true) ∧ w' = V) := fun V hV => by
                  have h1 := ((hb1.cut (k := g.b.length - 1) (by omega)).keep fun a _ hlt => hV.block _ hlt).bin
                  have h2 := ((hb2.cut (k := g.b.length - 1) (by omega)).keep fun a _ hlt => hV.block _ hlt).bin
                  have e : g.b.take (g.b.length - 1) = x.2.b.take (g.b.length - 1) := HKE.out.last (by rw [← HM.out.1]; exact hgt)
                  rw [← e] at h2
                  have hl : ((g.b.take (g.b.length - 1)).map fun c => (c.toNat : Int)).length = g.b.length - 1 := by rw [List.length_map, List.length_take]; omega
                  refine (equal_any p p2 (g.b.length - 1) c (g.b.length - 1) c2 _ _ V hl hl h1 h2).mono fun e w' ⟨he, hw⟩ => ⟨?_, hw⟩
                  rw [he, beq_self_eq_true]
                have HEQ2 := Lib.hid heq
                clear heq hm1
                go_upto_region 32 with fail
                go_cut [169] (fun v wx => v = .bool false ∧ Below w7.heap.size w7 wx)
                case first =>
                  have hbx := HBX.out
                  go_region_held3 (fun w' => w'.cell? ⟨ga, j, none⟩ = some (.slice p2 m2 c2) ∧ Below w7.heap.size w7 w') (exact HSC.out _ (by repeat (first | assumption | exact Below.refl _ _ | exact below_drewN _ _ | apply Below.drew)))
                    (first
                      | (go_at_call 14; refine (HEQ2.out _ ?_).mono ?_; (repeat (first | assumption | exact Below.refl _ _ | exact below_drewN _ _ | apply Below.drew)); rintro e w' ⟨rfl, rfl⟩))
                  all_goals
                    go_wp2_with fail
                    go_meet
                    exact ⟨rfl, by repeat (first | assumption | exact Below.refl _ _ | exact below_drewN _ _ | apply Below.drew)⟩
                case rest =>
                  obtain ⟨rfl, hbx⟩ := hcut
                  clear c3 hw1 hs3 hs4
                  have hcA' := (hbx.cell (cell_lt hcA)).trans hcA
                  have hfA' : _ = false := (hbx.frozen (p := ⟨ga, j, none⟩) (cell_lt hcA)).trans hfA
                  have HB2 := Lib.hid hbx
                  clear hbx hcA hfA
                  go_wp2_with fail
                  go_roundw
                  case rel =>
                    have h := (HKP.out.below HB2.out).set (HR.out.below HB2.out) rfl j
                    rw [mix_set HX1.out (by rw [HLF.out, HN.out])] at h
                    exact ⟨j + 1, by omega, by go_num, h⟩
                  case measure => simp [intOf]; omega
              · have c3 : decide (f < g.b.length) = false := by simpa using hgt
                clear hgt
                go_upto_region 32 with fail
                go_cut [169] (fun v wx => v = .bool false ∧ Below w7.heap.size w7 wx)
                case first =>
                  have hbx := HBX.out
                  go_quiet (fail)
                  all_goals
                    go_wp2_with fail
                    go_meet
                    exact ⟨rfl, by repeat (first | assumption | exact Below.refl _ _ | exact below_drewN _ _ | apply Below.drew | refine Below.trans hbx (below_drewN _ _))⟩
                case rest =>
                  obtain ⟨rfl, hbx⟩ := hcut
                  clear c3
                  have hcA' := (hbx.cell (cell_lt hcA)).trans hcA
                  have hfA' : _ = false := (hbx.frozen (p := ⟨ga, j, none⟩) (cell_lt hcA)).trans hfA
                  have HB2 := Lib.hid hbx
                  clear hbx hcA hfA
                  go_wp2_with fail
                  go_roundw
                  case rel =>
                    have h := (HKP.out.below HB2.out).set (HR.out.below HB2.out) rfl j
                    rw [mix_set HX1.out (by rw [HLF.out, HN.out])] at h
                    exact ⟨j + 1, by omega, by go_num, h⟩
                  case measure => simp [intOf]; omega
          · obtain rfl : j = k := by omega
            have hall : mix s.F s1.F j = s1.F.map (·.2.b) := by
              have := mix_all (F := s.F) (F1 := s1.F) (by rw [HLF.out, HN.out])
              rw [HN.out] at this
              exact this
            rw [hall] at HK
            clear hall
            go_wp2_with fail
            refine (torn16_any wr pt mt ct ts (HT.out.keep fun a _ hlt => HK.out.bel.block _ hlt) htm).mono ?_
            rintro e w7 ⟨q, d, rfl, hown, hb7⟩
            have hpk := picks_own hown fun b hb => HK.out.fresh (hown.lt b hb).1
            have HK7 := Lib.hid (HK.out.below hb7)
            have HPK := Lib.hid hpk
            clear hown hb7 hpk HK
            go_wp2_with fail
            refine (HK7.out.crash HG1.out.1 q mt d _ HPK.out pt mt ct ts (HT.out.torn HK7.out.bel HK7.out.old)).mono ?_
            rintro e w8 ⟨rfl, ρ2, hkp⟩
            rw [HC2.out] at hkp
            have HK8 := Lib.hid hkp
            clear hkp HK7 HPK
            go_wp2_with fail
            go_loopw [182] (fun i wr => ∃ i' : Nat, i' ≤ j ∧ i = .int .i64 i' ∧ Kp ρ2 w wr bd s1 (names s) (.slice pn j cn) u12 u13 (s1.F.map (·.2.b)) (s.F.map fun x => x.2.b.length - x.2.fast)) (fun i _ => j - (intOf i).toNat)
            case atStart => exact ⟨0, Nat.zero_le _, rfl, HK8.out⟩
            case round =>
              obtain ⟨i', hi', rfl, hkp⟩ := hrel
              have HK := Lib.hid hkp
              clear hkp HK8
              by_cases hlt : i' < j
              · obtain ⟨x, hx1⟩ : ∃ x, s1.F[i']? = some x := ⟨_, List.getElem?_eq_getElem (by rw [HLF.out]; exact hlt)⟩
                have HX1 := Lib.hid hx1
                have hns : (names s)[i']? = some x.1 := by rw [← HN1.out, names_lit HG1.out.2.2, List.getElem?_map, hx1]; rfl
                obtain ⟨gn, cc, hv, hcell, _, _⟩ := HK.out.nm.cell (j := i') (u := encStr x.1) (by rw [List.getElem?_map, hns]; rfl)
                simp only [Value.slice.injEq] at hv
                obtain ⟨rfl, hv0, rfl⟩ := hv
                clear hv0 hns
                have hcell' : wr.cell? ⟨gn, i', none⟩ = some (.string ⟨x.1.toArray⟩) := hcell
                clear hcell hx1
                go_wp2_with fail
                refine (HK.out.read HG1.out.1 HG1.out.2.1 HG1.out.2.2 HX1.out).mono ?_
                rintro e w9 ⟨p, c, rfl, hrow, hkp, hbb⟩
                clear hcell'
                have HR := Lib.hid hrow
                have HKP := Lib.hid hkp
                clear hrow hkp hbb HK
                obtain ⟨vs, hvs, hvl, hve⟩ := HKP.out.was
                obtain ⟨v, hvj, hvr⟩ := hve i' x.2.b (by rw [List.getElem?_map, HX1.out]; rfl)
                obtain ⟨ga, ca, ha, hcA, hfA, _⟩ := hvs.cell hvj
                have hvk : vs.length = j := by rw [hvl, List.length_map, HLF.out]
                rw [hvk] at ha
                subst ha
                obtain ⟨p2, c2, rfl⟩ := hvr.form
                rw [List.length_map] at hcA hvr
                have h1 := HR.out.bytes.1.bin
                have h2 := hvr.bytes.1.bin
                have heq := equal_any p p2 x.2.b.length c x.2.b.length c2 _ _ w9 (by rw [List.length_map]) (by rw [List.length_map]) h1 h2
                rw [beq_self_eq_true] at heq
                have HEQ := Lib.hid heq
                clear hvs hvl hve hvj hvr hvk h1 h2 heq hfA
                generalize x.2.b.length = m1 at *
                go_wp2_with (first
                  | (go_at_call 14; refine HEQ.out.mono ?_; rintro e w' ⟨rfl, rfl⟩)
                  | fail)
                go_roundw
                case rel => exact ⟨i' + 1, by omega, by go_num, HKP.out⟩
                case measure => simp [intOf]; omega
              · obtain rfl : i' = j := by omega
                go_wp2_with fail
                refine (HK.out.names HG1.out.1 HN1.out).mono ?_
                rintro e w9 ⟨p5, c5, rfl, hst, hkp, _⟩
                have HK9 := Lib.hid hkp
                have HST := Lib.hid hst
                clear hkp hst HK
                have hnl : (names s).length = i' := by rw [HNM.out, List.length_map, HN.out]
                rw [hnl]
                go_wp2_with fail
                have hsame := same_any w9 p5 pn c5 cn (names s) (names s) HST.out (StrsAt.of_own (base := w.heap.size) (by have h := HK9.out.nm.own; rw [List.length_map] at h; rw [hnl] at h ⊢; exact h)) (by omega)
                rw [hnl] at hsame
                refine hsame.mono ?_
                clear hsame hnl HST
                rintro e w10 ⟨rfl, hb10⟩
                have HB := Lib.hid (HK9.out.bel.trans (hb10.mono HK9.out.bel.size))
                clear hb10
                rw [show (names s == names s) = true from beq_self_eq_true _]
                go_wp2_with fail
                go_ret
                exact ⟨rfl, HB.out⟩
end Go.Proofs.YtjlchphbkmaacaaDoor
