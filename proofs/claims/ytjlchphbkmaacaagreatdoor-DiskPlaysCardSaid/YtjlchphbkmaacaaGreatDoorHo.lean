/- Do both disks show the same? -/
import Derived.Test.YtjlchphbkmaacaaGreatDoorHn
import Derived.Test.YtjlchphbkmaacaaGreatDoorFe
import Derived.Deep.DeepCutAuto
import Derived.Deep.CutBlock
import Derived.IntWalk
import Derived.Deep.QuietTactic
import Derived.BigQuiet
import Derived.Deep.RegionHeld3
set_option linter.unusedVariables false
set_option linter.unusedSimpArgs false
namespace Go.Proofs.YtjlchphbkmaacaaGreatDoor
open Go.RowKit Go.MapKept Go.ChangeMaps Go.Maps
attribute [local go_sem ↓] Go.wp_at_zero Go.wp_at_succ
open Dk

theorem Dk.Both.d3 {w0 w : World} {bd rd : Nat} {s t : St} (h : Both w0 bd rd s t w) : w.cell? ⟨rd, 3, none⟩ = some (.bool t.off) := by
  obtain ⟨ρ, σ, h1, ⟨vF, fv, lv, h2⟩, h3, h4, h5⟩ := h
  exact h2.d3
theorem names_short {s : St} (hg : Fine s) {x : Nm} (hx : x ∈ names s) : x.length ≤ 32 := by
  unfold names at hx
  split at hx
  · cases hx
  · obtain ⟨y, hy, rfl⟩ := List.mem_map.1 hx
    exact hg.name y hy
/-- The bytes being turned over. -/
def SmR (w : World) (m : Nat) (p : Option Addr) (wr : World) : Prop :=
  Below w.heap.size w wr ∧ (0 < m → ∃ g cur ty, p = some ⟨g, 0, none⟩ ∧ w.heap.size ≤ g ∧ wr.heap[g]? = some (.cells cur ty (0, 0)) ∧ ∀ j, j < m → ∃ z : Int, cur[j]? = some (.int .u8 z))
theorem SmR.step {w : World} {m : Nat} {g : Nat} {wr : World} (h : SmR w m (some ⟨g, 0, none⟩) wr) {k : Nat} (hk : k < m) (z : Int) : SmR w m (some ⟨g, 0, none⟩) (wr.setCell ⟨g, k, none⟩ (.int .u8 z)) := by
  obtain ⟨h2, h3⟩ := h
  obtain ⟨g', cur, ty, e, hg, hh, hc⟩ := h3 (by omega)
  cases e
  have hlt := (Array.getElem?_eq_some_iff.1 hh).1
  refine ⟨h2.setCell hg _, fun _ => ⟨g, cur.setIfInBounds k (.int .u8 z), ty, rfl, hg, ?_, fun j hj => ?_⟩⟩
  · rw [setCell_eq wr g k _ _ _ _ hh, heap_setBlock hlt]
  · by_cases hjk : k = j
    · subst hjk
      obtain ⟨z', hz⟩ := hc k hk
      have := (Array.getElem?_eq_some_iff.1 hz).1
      exact ⟨z, by simp [Array.getElem?_setIfInBounds, this]⟩
    · obtain ⟨z', hz⟩ := hc j hj
      exact ⟨z', by rw [Array.getElem?_setIfInBounds, if_neg hjk]; exact hz⟩
theorem SmR.at {w : World} {m : Nat} {p : Option Addr} {wr : World} (h : SmR w m p wr) {k : Nat} (hk : k < m) : ∃ g z, p = some ⟨g, 0, none⟩ ∧ wr.cell? ⟨g, k, none⟩ = some (.int .u8 z) ∧ wr.frozen? ⟨g, k, none⟩ = false := by
  obtain ⟨g', cur, ty, e, hg, hh, hc⟩ := h.2 (by omega)
  obtain ⟨z, hz⟩ := hc k hk
  exact ⟨g', z, e, (cell_of_block hh).trans hz, frozen_of_block hh⟩
theorem SmR.intro {w w1 wr : World} {m d : Nat} {q : Option Addr} {base : Nat} {bs : List UInt8} (hown : w1.ownsRow base 5 1 (.slice q m d) m (bs.map encU8)) (hm : bs.length = m) (hbase : w.heap.size ≤ base) (hb : Below w1.heap.size w1 wr) (hw : Below w.heap.size w wr) : SmR w m q wr := by
  refine ⟨hw, fun hpos => ?_⟩
  obtain ⟨_, ⟨he, hz⟩ | ⟨g, cap, cur, he, hge, hg, hc1, hc2, hcs, hct⟩⟩ := hown
  · omega
  · simp only [Value.slice.injEq] at he
    obtain ⟨rfl, -, -⟩ := he
    have hlt := (Array.getElem?_eq_some_iff.1 hg).1
    refine ⟨g, cur, _, rfl, Nat.le_trans hbase hge, (hb.block g hlt).trans hg, fun j hj => ⟨(bs.getD j 0).toNat, ?_⟩⟩
    have e3 : cur.toList[j]? = (bs.map encU8)[j]? := by
      rw [← hct, List.getElem?_take, if_pos (by omega)]
    have hjl : j < bs.length := by omega
    rw [← Array.getElem?_toList, e3, List.getElem?_map, List.getElem?_eq_getElem hjl, List.getD_eq_getElem?_getD, List.getElem?_eq_getElem hjl]
    rfl

def AllSame (w : World) (e : Ending) (w' : World) : Prop := e = .returned (.bool true) ∧ Below w.heap.size w w'
set_option maxRecDepth 100000 in
set_option maxHeartbeats 8000000 in
theorem rsame_any (w0 w : World) (bd rd : Nat) (s : St) (h : Both w0 bd rd s s w) (hg : Fine s) :
    Calls Tryz.prog 9 #[.pointer (some ⟨bd, 0, none⟩), .pointer (some ⟨rd, 0, none⟩)] w (AllSame w) := by
  have H := Lib.hid h
  have HG := Lib.hid hg
  clear h hg
  obtain ⟨nl, hnl⟩ : ∃ nl, nl = (names s).length := ⟨_, rfl⟩
  obtain ⟨U, hU⟩ : ∃ U, U = used s := ⟨_, rfl⟩
  obtain ⟨of, hof⟩ : ∃ of, of = s.off := ⟨_, rfl⟩
  have hn512 : nl ≤ 512 := by
    rw [hnl]
    unfold names
    split
    · exact Nat.zero_le _
    · rw [List.length_map]; exact HG.out.files
  have HNA := Lib.hid (show ∀ V, Below w.heap.size w V → Calls Tryz.prog 24 #[.pointer (some ⟨bd, 0, none⟩)] V (fun e w' => ∃ p c, e = .returned (.slice p nl c) ∧ StrsAt w' p (names s) ∧ Below w.heap.size w w' ∧ Below V.heap.size V w') from
    fun V hV => ((H.out.below hV).look (fun ρ bm blk dv hx => names_any hx HG.out)).mono fun e w' ⟨v, he, hr, hb, _⟩ => by
      obtain ⟨p, c, rfl⟩ := own3_slice hr
      exact ⟨p, c, by rw [he, hnl], StrsAt.of_own hr, hV.trans (hb.mono hV.size), hb⟩)
  have HNB := Lib.hid (show ∀ V, Below w.heap.size w V → Calls Tryz.prog 40 #[.pointer (some ⟨rd, 0, none⟩)] V (fun e w' => ∃ p c, e = .returned (.slice p nl c) ∧ StrsAt w' p (names s) ∧ Below w.heap.size w w' ∧ Below V.heap.size V w') from
    fun V hV => ((H.out.below hV).rlook (fun σ vF fv lv hx => rnames_any hx HG.out)).mono fun e w' ⟨v, he, hr, hb⟩ => by
      obtain ⟨p, c, rfl⟩ := own3_slice hr
      exact ⟨p, c, by rw [he, hnl], StrsAt.of_own hr, hV.trans (hb.mono hV.size), hb⟩)
  have HSM := Lib.hid (show ∀ V p q c d, Below w.heap.size w V → StrsAt V p (names s) → StrsAt V q (names s) → Calls Tryz.prog 25 #[.slice p nl c, .slice q nl d] V (fun e w' => e = .returned (.bool true) ∧ Below w.heap.size w w') from
    fun V p q c d hV h1 h2 => by
      have h := same_any V p q c d (names s) (names s) h1 h2 (by rw [← hnl]; omega)
      rw [← hnl] at h
      exact h.mono fun e w' ⟨he, hb⟩ => ⟨by rw [he, beq_self_eq_true], hV.trans (hb.mono hV.size)⟩)
  have HUA := Lib.hid (show ∀ V, Below w.heap.size w V → Calls Tryz.prog 41 #[.pointer (some ⟨bd, 0, none⟩)] V (fun e w' => e = .returned (.int .i64 U) ∧ Below w.heap.size w w') from
    fun V hV => ((H.out.below hV).look (fun ρ bm blk dv hx => used_any hx HG.out)).mono fun e w' ⟨he, hb⟩ => ⟨by rw [he, hU], hV.trans (hb.mono hV.size)⟩)
  have HUB := Lib.hid (show ∀ V, Below w.heap.size w V → Calls Tryz.prog 42 #[.pointer (some ⟨rd, 0, none⟩)] V (fun e w' => e = .returned (.int .i64 U) ∧ Below w.heap.size w w') from
    fun V hV => ((H.out.below hV).rlook (fun σ vF fv lv hx => rused_any hx HG.out)).mono fun e w' ⟨he, hb⟩ => ⟨by rw [he, hU], hV.trans (hb.mono hV.size)⟩)
  have HOF := Lib.hid (show ∀ V, Below w.heap.size w V → Calls Tryz.prog 23 #[.pointer (some ⟨bd, 0, none⟩)] V (fun e w' => e = .returned (.bool of) ∧ w' = V) from
    fun V hV => ((H.out.below hV).look (fun ρ bm blk dv hx => off_any bd bm s.off V hx.c0 hx.c3)).mono fun e w' ⟨he, hb⟩ => ⟨by rw [he, hof], hb⟩)
  have HS := Lib.hid (show ∀ V, Below w.heap.size w V → V.cell? ⟨rd, 3, none⟩ = some (.bool of) ∧ Below w.heap.size w V from fun V hV => ⟨by rw [hof]; exact (H.out.below hV).d3, hV⟩)
  have HNL := Lib.hid hnl
  have kU : (U != U) = false := by simp
  have kO : (of != of) = false := by simp
  clear hnl hU hof
  go_enter Tryz.func9, Tryz.ntmps9
  go_upto_region 1 with fail
  go_cut [35] (fun v wx => v = .bool false ∧ Below w.heap.size w wx)
  case first =>
    go_region_held3 (fun w' => w'.cell? ⟨rd, 3, none⟩ = some (.bool of) ∧ Below w.heap.size w w') (exact HS.out _ (by repeat (first | assumption | exact Below.refl _ _ | exact below_drewN _ _ | apply Below.drew)))
      (first
        | (go_at_call 24; refine (HNA.out _ ?_).mono ?_; (repeat (first | assumption | exact Below.refl _ _ | exact below_drewN _ _ | apply Below.drew)); rintro e w1 ⟨p1, c1, rfl, hs1, hbx, _⟩)
        | (go_at_call 40; refine (HNB.out _ ?_).mono ?_; (repeat (first | assumption | exact Below.refl _ _ | exact below_drewN _ _ | apply Below.drew)); rintro e w2 ⟨p2, c2, rfl, hs2, hbx, hbb⟩; replace hs1 := hs1.below hbb)
        | (go_at_call 25; refine (HSM.out _ _ _ _ _ ?_ ?_ ?_).mono ?_; (repeat (first | assumption | exact Below.refl _ _ | exact below_drewN _ _ | apply Below.drew)); rintro e w3 ⟨rfl, hbx⟩)
        | (go_at_call 41; refine (HUA.out _ ?_).mono ?_; (repeat (first | assumption | exact Below.refl _ _ | exact below_drewN _ _ | apply Below.drew)); rintro e w4 ⟨rfl, hbx⟩)
        | (go_at_call 42; refine (HUB.out _ ?_).mono ?_; (repeat (first | assumption | exact Below.refl _ _ | exact below_drewN _ _ | apply Below.drew)); rintro e w5 ⟨rfl, hbx⟩)
        | (go_at_call 23; refine (HOF.out _ ?_).mono ?_; (repeat (first | assumption | exact Below.refl _ _ | exact below_drewN _ _ | apply Below.drew)); rintro e w6 ⟨rfl, rfl⟩))
    all_goals
      go_wp2_with fail
      go_meet
      exact ⟨rfl, by assumption⟩
  case rest =>
    obtain ⟨rfl, hbx⟩ := hcut
    have HBX := Lib.hid hbx
    clear hbx kU kO
    go_wp2_with fail
    refine (HNB.out _ HBX.out).mono ?_
    rintro e wN ⟨p, c, rfl, hs, hbN, _⟩
    have HSN := Lib.hid hs
    have HBN := Lib.hid hbN
    clear hs hbN
    go_wp2_with fail
    go_loopw [39] (fun i wr => ∃ k : Nat, k ≤ nl ∧ i = .int .i64 k ∧ Below wN.heap.size wN wr) (fun i _ => nl - (intOf i).toNat)
    case atStart => exact ⟨0, Nat.zero_le _, rfl, Below.refl _ _⟩
    case round =>
      obtain ⟨k, hk, rfl, hbr⟩ := hrel
      have HBR := Lib.hid hbr
      clear hbr
      by_cases hlt : k < nl
      · obtain ⟨x, hx⟩ : ∃ x, (names s)[k]? = some x := ⟨_, List.getElem?_eq_getElem (by rw [← HNL.out]; exact hlt)⟩
        have hsN := HSN.out.below HBR.out
        obtain ⟨g, rfl, hc⟩ := hsN.cells k x hx
        have hshort := names_short HG.out (List.mem_of_getElem? hx)
        have hn : (⟨x.toArray⟩ : ByteArray).size ≤ maxLen := by
          have : (⟨x.toArray⟩ : ByteArray).size = x.length := List.size_toArray
          unfold maxLen; omega
        obtain ⟨E, hE⟩ : ∃ E, E = readE x s := ⟨_, rfl⟩
        obtain ⟨RB, hRB⟩ : ∃ RB, RB = readB x s := ⟨_, rfl⟩
        obtain ⟨m, hm⟩ : ∃ m, m = RB.length := ⟨_, rfl⟩
        obtain ⟨L, hL⟩ : ∃ L, L = loose x s := ⟨_, rfl⟩
        have hBT : ∀ V, Below wN.heap.size wN V → Both w0 bd rd s s V := fun V hV => H.out.below (HBN.out.trans (hV.mono HBN.out.size))
        have HBT := Lib.hid hBT
        have HRA := Lib.hid (show ∀ V, Below wN.heap.size wN V → Calls Tryz.prog 10 #[.pointer (some ⟨bd, 0, none⟩), .string ⟨x.toArray⟩] V (fun e w' => ∃ p c, e = .returned (.tuple #[.slice p m c, .int .i64 E]) ∧ w'.ownsRow V.heap.size 5 1 (.slice p m c) m (RB.map encU8) ∧ Below V.heap.size V w' ∧ Below wN.heap.size wN w') from
          fun V hV => ((HBT.out V hV).look (fun ρ bm blk dv hx => read_any hx HG.out ⟨x.toArray⟩ hn)).mono fun e w' ⟨v, he, hr, hb⟩ => by
            obtain ⟨p, c, rfl⟩ := own_slice hr
            refine ⟨p, c, ?_, ?_, hb, hV.trans (hb.mono hV.size)⟩
            · rw [he, hE, hm, hRB]
            · rw [hm, hRB]; exact hr)
        have HRB := Lib.hid (show ∀ V, Below wN.heap.size wN V → Calls Tryz.prog 11 #[.pointer (some ⟨rd, 0, none⟩), .string ⟨x.toArray⟩] V (fun e w' => ∃ p c, e = .returned (.tuple #[.slice p m c, .int .i64 E]) ∧ w'.ownsRow V.heap.size 5 1 (.slice p m c) m (RB.map encU8) ∧ Below V.heap.size V w' ∧ Below wN.heap.size wN w') from
          fun V hV => ((HBT.out V hV).rlook (fun σ vF fv lv hx => rread_any hx HG.out ⟨x.toArray⟩ hn)).mono fun e w' ⟨v, he, hr, hb⟩ => by
            obtain ⟨p, c, rfl⟩ := own_slice hr
            refine ⟨p, c, ?_, ?_, hb, hV.trans (hb.mono hV.size)⟩
            · rw [he, hE, hm, hRB]
            · rw [hm, hRB]; exact hr)
        have HSZ := Lib.hid (show ∀ V, Below wN.heap.size wN V → Calls Tryz.prog 12 #[.pointer (some ⟨bd, 0, none⟩), .string ⟨x.toArray⟩] V (fun e w' => e = .returned (.tuple #[.int .i64 m, .int .i64 E]) ∧ Below V.heap.size V w' ∧ Below wN.heap.size wN w') from
          fun V hV => ((HBT.out V hV).look (fun ρ bm blk dv hx => size_any hx HG.out ⟨x.toArray⟩ hn)).mono fun e w' ⟨he, hb⟩ => ⟨by rw [he, hE, hm, hRB], hb, hV.trans (hb.mono hV.size)⟩)
        have HLA := Lib.hid (show ∀ V, Below wN.heap.size wN V → Calls Tryz.prog 13 #[.pointer (some ⟨bd, 0, none⟩), .string ⟨x.toArray⟩] V (fun e w' => e = .returned (.int .i64 L) ∧ Below V.heap.size V w') from
          fun V hV => ((HBT.out V hV).look (fun ρ bm blk dv hx => loose_any hx HG.out ⟨x.toArray⟩ hn)).mono fun e w' ⟨he, hb⟩ => ⟨by rw [he, hL], hb⟩)
        have HLB := Lib.hid (show ∀ V, Below wN.heap.size wN V → Calls Tryz.prog 14 #[.pointer (some ⟨rd, 0, none⟩), .string ⟨x.toArray⟩] V (fun e w' => e = .returned (.int .i64 L) ∧ Below V.heap.size V w') from
          fun V hV => ((HBT.out V hV).rlook (fun σ vF fv lv hx => rloose_any hx HG.out ⟨x.toArray⟩ hn)).mono fun e w' ⟨he, hb⟩ => ⟨by rw [he, hL], hb⟩)
        have HM := Lib.hid hm
        have hm0 : m ≤ 4194304 := by
          rw [hm, hRB]
          unfold readB
          split
          · cases hg : get x s.F with
            | none => exact Nat.zero_le _
            | some f => exact HG.out.size_le hg
          · exact Nat.zero_le _
        clear hE hRB hL hx hshort hn hBT hsN hm
        go_wp2_with fail
        refine (HRA.out _ HBR.out).mono ?_
        rintro e w5 ⟨pa, ca, rfl, hra, hb5, hn5⟩
        have HA5 := Lib.hid hra
        have HN5 := Lib.hid hn5
        clear hra hb5 hn5 hc
        go_wp2_with fail
        refine (HRB.out _ HN5.out).mono ?_
        rintro e w6 ⟨pb, cb, rfl, hrb, hb6, hn6⟩
        have HA6 := Lib.hid hrb
        have HB6 := Lib.hid hb6
        have HN6 := Lib.hid hn6
        clear hrb hb6 hn6
        go_wp2_with fail
        refine (HSZ.out _ HN6.out).mono ?_
        rintro e w7 ⟨rfl, hb7, hn7⟩
        have HB7 := Lib.hid hb7
        have HN7 := Lib.hid hn7
        have HLA7 := Lib.hid (show ∀ V, Below w7.heap.size w7 V → Calls Tryz.prog 13 #[.pointer (some ⟨bd, 0, none⟩), .string ⟨x.toArray⟩] V (fun e w' => e = .returned (.int .i64 L) ∧ Below w7.heap.size w7 w') from
          fun V hV => (HLA.out V (HN7.out.trans (hV.mono HN7.out.size))).mono fun e w' ⟨he, hb⟩ => ⟨he, hV.trans (hb.mono hV.size)⟩)
        have HLB7 := Lib.hid (show ∀ V, Below w7.heap.size w7 V → Calls Tryz.prog 14 #[.pointer (some ⟨rd, 0, none⟩), .string ⟨x.toArray⟩] V (fun e w' => e = .returned (.int .i64 L) ∧ Below w7.heap.size w7 w') from
          fun V hV => (HLB.out V (HN7.out.trans (hV.mono HN7.out.size))).mono fun e w' ⟨he, hb⟩ => ⟨he, hV.trans (hb.mono hV.size)⟩)
        have hown7 : w7.ownsRow w5.heap.size 5 1 (.slice pb m cb) m (RB.map encU8) := ownsRow_block HA6.out fun b hb' => HB7.out.block b (HA6.out.lt b hb').2
        have hown7a : w7.ownsRow wr.heap.size 5 1 (.slice pa m ca) m (RB.map encU8) := ownsRow_block HA5.out fun b hb' => (HB7.out.block b (Nat.lt_of_lt_of_le (HA5.out.lt b hb').2 HB6.out.size)).trans (HB6.out.block b (HA5.out.lt b hb').2)
        have HOA := Lib.hid hown7a
        have HEQ := Lib.hid (show ∀ V, Below w7.heap.size w7 V → Calls Tryz.prog 21 #[.slice pa m ca, .slice pb m cb] V (fun e w' => e = .returned (.bool true) ∧ w' = V) from fun V hV => by
          have h1 : BytesAt w7 pa m RB := own_bytes (base := wr.heap.size) (c := ca) (by rw [← HM.out]; exact hown7a)
          have h2 : BytesAt w7 pb m RB := own_bytes (base := w5.heap.size) (c := cb) (by rw [← HM.out]; exact hown7)
          have h1' := (h1.keep (w' := V) fun a _ hlt => hV.block _ hlt).bin
          have h2' := (h2.keep (w' := V) fun a _ hlt => hV.block _ hlt).bin
          have hl : (RB.map fun c => (c.toNat : Int)).length = m := by rw [List.length_map, ← HM.out]
          refine (equal_any pa pb m ca m cb _ _ V hl hl h1' h2').mono fun e w' ⟨he, hw⟩ => ⟨?_, hw⟩
          rw [he, beq_self_eq_true])
        have kE : (E != E) = false := by simp
        have kM : ((m : Int) != (m : Int)) = false := by simp
        have kL : (L != L) = false := by simp
        clear hb7 hn7 hown7 hown7a
        go_upto_region 9 with fail
        go_cut [89] (fun v wx => v = .bool false ∧ Below w7.heap.size w7 wx)
        case first =>
          go_wp2_with (first
              | (go_at_call 21; refine (HEQ.out _ ?_).mono ?_; (repeat (first | assumption | exact Below.refl _ _ | exact below_drewN _ _ | apply Below.drew)); rintro e w' ⟨rfl, rfl⟩)
              | (go_at_call 13; refine (HLA7.out _ ?_).mono ?_; (repeat (first | assumption | exact Below.refl _ _ | exact below_drewN _ _ | apply Below.drew)); rintro e w' ⟨rfl, hbx⟩)
              | (go_at_call 14; refine (HLB7.out _ ?_).mono ?_; (repeat (first | assumption | exact Below.refl _ _ | exact below_drewN _ _ | apply Below.drew)); rintro e w' ⟨rfl, hbx⟩))
          go_meet
          exact ⟨rfl, by assumption⟩
        case rest =>
          obtain ⟨rfl, hb8⟩ := hcut
          have HSR := Lib.hid (SmR.intro HOA.out HM.out.symm (Nat.le_trans HBR.out.size (Nat.le_refl _)) hb8 (HN7.out.trans (hb8.mono HN7.out.size)))
          clear kE kM kL hb8
          go_wp2_with fail
          go_loopw [92] (fun i wy => ∃ j : Nat, j ≤ m ∧ i = .int .i64 j ∧ SmR wN m pa wy) (fun i _ => m - (intOf i).toNat)
          case atStart => exact ⟨0, Nat.zero_le _, rfl, HSR.out⟩
          case round =>
            obtain ⟨j, hj, rfl, hsr⟩ := hrel
            have HSR2 := Lib.hid hsr
            clear hsr
            by_cases hjm : j < m
            · obtain ⟨g2, z, rfl, hc2, hf2⟩ := HSR2.out.at hjm
              go_wp2_with fail
              go_roundw
              case rel => exact ⟨j + 1, by omega, by go_num, HSR2.out.step hjm _⟩
              case measure => simp [intOf]; omega
            · obtain rfl : j = m := by omega
              go_wp2_with fail
              go_roundw
              case rel => exact ⟨k + 1, by omega, by go_num, HSR2.out.1⟩
              case measure => simp [intOf]; omega
      · obtain rfl : k = nl := by omega
        go_wp2_with fail
        go_ret
        exact ⟨rfl, HBN.out.trans (HBR.out.mono HBN.out.size)⟩
end Go.Proofs.YtjlchphbkmaacaaGreatDoor
