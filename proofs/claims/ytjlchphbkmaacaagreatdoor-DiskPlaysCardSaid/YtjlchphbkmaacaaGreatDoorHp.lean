/- DiskPlays: the walk. -/
import Derived.Test.YtjlchphbkmaacaaGreatDoorHo
import Derived.Test.YtjlchphbkmaacaaGreatDoorFg
set_option linter.unusedVariables false
set_option linter.unusedSimpArgs false
namespace Go.Proofs.YtjlchphbkmaacaaGreatDoor
open Go.RowKit Go.MapKept Go.ChangeMaps Go.Maps
attribute [local go_sem ↓] Go.wp_at_zero Go.wp_at_succ
open Dk

/-- Both disks, and a block of neither. -/
def Dk.BothX (w0 : World) (bd rd : Nat) (B : Nat) (o : Obj) (s t : St) (w : World) : Prop :=
  ∃ ρ σ, Rep ρ w bd s ∧ RefRep σ w rd t ∧ (∀ b, ρ b = none ∨ σ b = none) ∧ (∀ b, b < w0.heap.size → ρ b = none ∧ σ b = none) ∧ Below w0.heap.size w0 w ∧ ρ B = none ∧ σ B = none ∧ w.heap[B]? = some o
theorem Dk.BothX.both {w0 w : World} {bd rd B : Nat} {o : Obj} {s t : St} (h : BothX w0 bd rd B o s t w) : Both w0 bd rd s t w := by
  obtain ⟨ρ, σ, h1, h2, h3, h4, h5, h6, h7, h8⟩ := h
  exact ⟨ρ, σ, h1, h2, h3, h4, h5⟩
theorem Dk.BothX.box {w0 w : World} {bd rd B : Nat} {o : Obj} {s t : St} (h : BothX w0 bd rd B o s t w) : w.heap[B]? = some o := by
  obtain ⟨ρ, σ, h1, h2, h3, h4, h5, h6, h7, h8⟩ := h
  exact h8
theorem Dk.BothX.below {w0 w w' : World} {bd rd B : Nat} {o : Obj} {s t : St} (h : BothX w0 bd rd B o s t w) (hb : Below w.heap.size w w') : BothX w0 bd rd B o s t w' := by
  obtain ⟨ρ, σ, h1, h2, h3, h4, h5, h6, h7, h8⟩ := h
  exact ⟨ρ, σ, h1.below hb, h2.below hb, h3, h4, h5.trans (hb.mono h5.size), h6, h7, (hb.block B (Array.getElem?_eq_some_iff.1 h8).1).trans h8⟩
theorem Dk.Both.alloc {w0 w : World} {bd rd : Nat} {s t : St} (h : Both w0 bd rd s t w) (cs : Array Value) (ty : TypeId) : BothX w0 bd rd w.heap.size (.cells cs ty (0, 0)) s t (w.alloc (.cells cs ty)) := by
  obtain ⟨ρ, σ, h1, h2, h3, h4, h5⟩ := h
  have hb := bel_alloc (Below.refl w.heap.size w) (.cells cs ty)
  have hρ : ρ w.heap.size = none := by
    obtain ⟨_, _, _, h⟩ := h1
    exact h.fresh (Nat.le_refl _)
  exact ⟨ρ, σ, h1.below hb, h2.below hb, h3, h4, h5.trans (hb.mono h5.size), hρ, h2.fresh (Nat.le_refl _), allocs_at [.cells cs ty] w 0 _ rfl⟩
def BothXPost (w0 : World) (bd rd B : Nat) (o : Obj) (z : Int) (s t : St) (e : Ending) (w' : World) : Prop := e = .returned (.int .i64 z) ∧ BothX w0 bd rd B o s t w'
theorem Dk.BothX.call {w0 w : World} {bd rd B : Nat} {o : Obj} {s s' t : St} (h : BothX w0 bd rd B o s t w) {f : FuncId} {args : Array Value} {r : Int × St} {z : Int}
    (k : ∀ ρ bm blk dv, (∀ b, b < w0.heap.size → ρ b = none) → Below w0.heap.size w0 w → RepX ρ w bd s bm blk dv → Calls Tryz.prog f args w (MethPost ρ w bd r)) (hr : r = (z, s')) : Calls Tryz.prog f args w (BothXPost w0 bd rd B o z s' t) := by
  obtain ⟨ρ, σ, ⟨bm, blk, dv, h1⟩, h2, h3, h4, h5, h8, h9, h10⟩ := h
  refine (k ρ bm blk dv (fun b hb => (h4 b hb).1) h5 h1).mono fun e w' hp => ?_
  obtain ⟨he, ρ', h6, h7⟩ := hp.of hr
  have hlt : ∀ b x, σ b = some x → b < w.heap.size := fun b x e => by
    obtain ⟨_, _, _, h⟩ := h2
    exact h.lt b x e
  have hno : ∀ b x, σ b = some x → ρ b = none := fun b x e => by
    rcases h3 b with h | h
    · exact h
    · rw [h] at e; cases e
  have hB := h7.block B (Array.getElem?_eq_some_iff.1 h10).1 h8
  refine ⟨he, ρ', σ, h6, h2.beside h7.size fun b x e => (h7.block b (hlt b x e) (hno b x e)).1, fun b => ?_, fun b hb => ⟨h7.none h5.size (fun b hb => (h4 b hb).1) b hb, (h4 b hb).2⟩, h5.trans (h7.below h5.size fun b hb => (h4 b hb).1), hB.2, h9, hB.1.trans h10⟩
  cases e : σ b with
  | none => exact .inr rfl
  | some x => exact .inl (h7.block b (hlt b x e) (hno b x e)).2
theorem Dk.BothX.rcall {w0 w : World} {bd rd B : Nat} {o : Obj} {s t t' : St} (h : BothX w0 bd rd B o s t w) {f : FuncId} {args : Array Value} {r : Int × St} {z : Int}
    (k : ∀ σ vF fv lv, (∀ b, b < w0.heap.size → σ b = none) → Below w0.heap.size w0 w → RefX σ w rd t vF fv lv → Calls Tryz.prog f args w (RefPost σ w rd r)) (hr : r = (z, t')) : Calls Tryz.prog f args w (BothXPost w0 bd rd B o z s t') := by
  obtain ⟨ρ, σ, ⟨bm, blk, dv, h1⟩, ⟨vF, fv, lv, h2⟩, h3, h4, h5, h8, h9, h10⟩ := h
  refine (k σ vF fv lv (fun b hb => (h4 b hb).2) h5 h2).mono fun e w' hp => ?_
  subst hr
  obtain ⟨he, σ', h6, h7⟩ := hp
  have hno : ∀ b x, ρ b = some x → σ b = none := fun b x e => by
    rcases h3 b with h | h
    · rw [h] at e; cases e
    · exact h
  have hB := h7.block B (Array.getElem?_eq_some_iff.1 h10).1 h9
  refine ⟨he, ρ, σ', ⟨bm, blk, dv, h1.beside h7.size fun b x e => (h7.block b (h1.lt b x e) (hno b x e)).1⟩, h6, fun b => ?_, fun b hb => ⟨(h4 b hb).1, h7.none h5.size (fun b hb => (h4 b hb).2) b hb⟩, h5.trans (h7.below h5.size fun b hb => (h4 b hb).2), h8, hB.2, hB.1.trans h10⟩
  cases e : ρ b with
  | none => exact .inl rfl
  | some x => exact .inr (h7.block b (h1.lt b x e) (hno b x e)).2
theorem Dk.ActV.In.pr {A : ActV} {w : World} {σ : Nat → Option Role} (h : A.In w) (hσ : ∀ b, b < w.heap.size → σ b = none) : 0 < A.mb → ∀ a, A.pb = some a → σ a.block = none := fun h0 a e => by
  obtain ⟨a', e', hc⟩ := bytes_torn h.b h0
  rw [e] at e'
  cases e'
  have := cell_lt hc
  rw [add_block'] at this
  exact hσ _ this

set_option maxRecDepth 100000 in
set_option maxHeartbeats 8000000 in
theorem plays_any (w : World) (q : Int) (pl : Option Addr) (ml cl : Nat) (hl : ActsAt w pl ml) (hm : ml ≤ 140737488355328) :
    Calls Tryz.prog 3 #[.int .i64 q, .slice pl ml cl] w (AllSame w) := by
  have HL := Lib.hid hl
  clear hl
  go_enter Tryz.func3, Tryz.ntmps3
  go_wp2_with fail
  refine (awake_any _).mono ?_
  rintro e w1 ⟨rfl, hb1⟩
  have HB1 := Lib.hid hb1
  clear hb1
  go_wp2_with fail
  refine (new_any q w1).mono ?_
  rintro e w2 hp2
  unfold NewPost at hp2
  by_cases hq : 0 ≤ q ∧ q ≤ 4194304
  · rw [if_pos hq] at hp2
    have HQ := Lib.hid hq
    clear hq
    obtain ⟨ρ2, bd, rfl, hr2, hρ2, hb2⟩ := hp2
    have H2 := Lib.hid (And.intro hr2 (And.intro hρ2 hb2))
    clear hr2 hρ2 hb2
    go_wp2_with fail
    refine (rnew_any q w2).mono ?_
    rintro e w3 hp3
    unfold RNewPost at hp3
    rw [if_pos HQ.out] at hp3
    obtain ⟨σ3, rd, rfl, hr3, hσ3, hb3⟩ := hp3
    have HB := Lib.hid (show Both w bd rd (fresh q) (fresh q) w3 from Dk.Both.intro H2.out.1 (fun b hb => H2.out.2.1 b (Nat.lt_of_lt_of_le hb HB1.out.size)) (HB1.out.trans (H2.out.2.2.mono HB1.out.size)) hr3 hσ3 hb3)
    have HF := Lib.hid (fine0 HQ.out.1 HQ.out.2)
    clear hr3 hσ3 hb3
    go_wp2_with fail
    go_loopw [43] (fun i wr => ∃ k : Nat, k ≤ ml ∧ i = .int .i64 k ∧ ∃ s, Both w bd rd s s wr ∧ Fine s) (fun i _ => ml - (intOf i).toNat)
    case atStart => exact ⟨0, Nat.zero_le _, rfl, _, HB.out, HF.out⟩
    case round =>
      obtain ⟨k, hk, rfl, s, hbo, hg⟩ := hrel
      have HBO := Lib.hid hbo
      have HG := Lib.hid hg
      clear hbo hg
      by_cases hlt : k < ml
      · obtain ⟨b, o, A, rfl, hab, hin, d0, d1, d2, d3, d4, d5⟩ := HL.out.each k hlt
        have hbl := HBO.out.base
        have e0 := (hbl.cell (cell_lt d0)).trans d0
        have e1 := (hbl.cell (cell_lt d1)).trans d1
        have e2 := (hbl.cell (cell_lt d2)).trans d2
        have e3 := (hbl.cell (cell_lt d3)).trans d3
        have e4 := (hbl.cell (cell_lt d4)).trans d4
        have e5 := (hbl.cell (cell_lt d5)).trans d5
        have HIN := Lib.hid hin
        clear hin d0 d1 d2 d3 d4 d5 hbl hab
        by_cases hk1 : k = 150
        · subst hk1
          go_wp2_with fail
          go_ret
          have hb := bel_alloc (Below.refl wr.heap.size wr) (.cells #[.int .i64 A.what, .string A.nm, .string A.ot, .slice A.pb A.mb A.cb, .int .i64 A.n, .slice A.pp A.mp A.cp] 34)
          exact ⟨rfl, HBO.out.base.trans (hb.mono HBO.out.base.size)⟩
        have hkne : ((k : Int) == 150) = false := by rw [beq_eq_false_iff_ne]; omega
        have HX0 := Lib.hid (HBO.out.alloc #[.int .i64 A.what, .string A.nm, .string A.ot, .slice A.pb A.mb A.cb, .int .i64 A.n, .slice A.pp A.mp A.cp] 34)
        obtain ⟨z, s', hr⟩ : ∃ z s', doF A s = (z, s') := ⟨_, _, rfl⟩
        have hg' : Fine s' := by
          have := HG.out.doF A HIN.out.n1
          rw [hr] at this
          exact this
        have HG' := Lib.hid hg'
        have HDO := Lib.hid (show ∀ V, BothX w bd rd wr.heap.size (.cells #[.int .i64 A.what, .string A.nm, .string A.ot, .slice A.pb A.mb A.cb, .int .i64 A.n, .slice A.pp A.mp A.cp] 34 (0, 0)) s s V → Calls Tryz.prog 7 #[.pointer (some ⟨bd, 0, none⟩), .agg #[.int .i64 A.what, .string A.nm, .string A.ot, .slice A.pb A.mb A.cb, .int .i64 A.n, .slice A.pp A.mp A.cp]] V (BothXPost w bd rd wr.heap.size (.cells #[.int .i64 A.what, .string A.nm, .string A.ot, .slice A.pb A.mb A.cb, .int .i64 A.n, .slice A.pp A.mp A.cp] 34 (0, 0)) z s' s) from
          fun V hV => hV.call (fun ρ bm blk dv hρ hbl hx => do_any hx HG.out A (HIN.out.ok hρ hbl)) hr)
        have HDS := Lib.hid (show ∀ V, BothX w bd rd wr.heap.size (.cells #[.int .i64 A.what, .string A.nm, .string A.ot, .slice A.pb A.mb A.cb, .int .i64 A.n, .slice A.pp A.mp A.cp] 34 (0, 0)) s' s V → Calls Tryz.prog 8 #[.pointer (some ⟨rd, 0, none⟩), .agg #[.int .i64 A.what, .string A.nm, .string A.ot, .slice A.pb A.mb A.cb, .int .i64 A.n, .slice A.pp A.mp A.cp]] V (BothXPost w bd rd wr.heap.size (.cells #[.int .i64 A.what, .string A.nm, .string A.ot, .slice A.pb A.mb A.cb, .int .i64 A.n, .slice A.pp A.mp A.cp] 34 (0, 0)) z s' s') from
          fun V hV => hV.rcall (fun σ vF fv lv hσ hbl hx => rdo_any hx HG.out A (HIN.out.ok hσ hbl) (HIN.out.pr hσ)) hr)
        have HSA := Lib.hid (show ∀ V, BothX w bd rd wr.heap.size (.cells #[.int .i64 A.what, .string A.nm, .string A.ot, .slice A.pb A.mb A.cb, .int .i64 A.n, .slice A.pp A.mp A.cp] 34 (0, 0)) s' s' V → Calls Tryz.prog 9 #[.pointer (some ⟨bd, 0, none⟩), .pointer (some ⟨rd, 0, none⟩)] V (fun e w' => e = .returned (.bool true) ∧ BothX w bd rd wr.heap.size (.cells #[.int .i64 A.what, .string A.nm, .string A.ot, .slice A.pb A.mb A.cb, .int .i64 A.n, .slice A.pp A.mp A.cp] 34 (0, 0)) s' s' w') from
          fun V hV => (rsame_any w V bd rd s' hV.both HG'.out).mono fun e w' ⟨he, hb⟩ => ⟨he, hV.below hb⟩)
        have HSB := Lib.hid (show ∀ (V : World) (s1 s2 : St), BothX w bd rd wr.heap.size (.cells #[.int .i64 A.what, .string A.nm, .string A.ot, .slice A.pb A.mb A.cb, .int .i64 A.n, .slice A.pp A.mp A.cp] 34 (0, 0)) s1 s2 V → V.cell? ⟨wr.heap.size, 0, none⟩ = some (.int .i64 A.what) ∧ V.cell? ⟨wr.heap.size, 1, none⟩ = some (.string A.nm) ∧ V.cell? ⟨wr.heap.size, 2, none⟩ = some (.string A.ot) ∧ V.cell? ⟨wr.heap.size, 3, none⟩ = some (.slice A.pb A.mb A.cb) ∧ V.cell? ⟨wr.heap.size, 4, none⟩ = some (.int .i64 A.n) ∧ V.cell? ⟨wr.heap.size, 5, none⟩ = some (.slice A.pp A.mp A.cp) from
          fun V s1 s2 hV => ⟨cell_of_block (i := 0) hV.box, cell_of_block (i := 1) hV.box, cell_of_block (i := 2) hV.box, cell_of_block (i := 3) hV.box, cell_of_block (i := 4) hV.box, cell_of_block (i := 5) hV.box⟩)
        have kz : (z != z) = false := by simp
        clear hr hg'
        go_upto_region 13 with fail
        have hx0 := HX0.out
        clear e0 e1 e2 e3 e4 e5
        go_cut [62] (fun v wx => v = .bool false ∧ BothX w bd rd wr.heap.size (.cells #[.int .i64 A.what, .string A.nm, .string A.ot, .slice A.pb A.mb A.cb, .int .i64 A.n, .slice A.pp A.mp A.cp] 34 (0, 0)) s' s' wx)
        case first =>
          go_region_held3 (fun V => V.cell? ⟨wr.heap.size, 0, none⟩ = some (.int .i64 A.what) ∧ V.cell? ⟨wr.heap.size, 1, none⟩ = some (.string A.nm) ∧ V.cell? ⟨wr.heap.size, 2, none⟩ = some (.string A.ot) ∧ V.cell? ⟨wr.heap.size, 3, none⟩ = some (.slice A.pb A.mb A.cb) ∧ V.cell? ⟨wr.heap.size, 4, none⟩ = some (.int .i64 A.n) ∧ V.cell? ⟨wr.heap.size, 5, none⟩ = some (.slice A.pp A.mp A.cp)) (exact HSB.out _ _ _ (by first | assumption | exact Dk.BothX.below (by assumption) (by repeat (first | assumption | exact Below.refl _ _ | exact below_drewN _ _ | apply Below.drew))))
            (first
              | (go_at_call 7; refine (HDO.out _ (by first | assumption | exact Dk.BothX.below (by assumption) (by repeat (first | assumption | exact Below.refl _ _ | exact below_drewN _ _ | apply Below.drew)))).mono ?_; rintro e w5 ⟨rfl, hx1⟩)
              | (go_at_call 8; refine (HDS.out _ (by first | assumption | exact Dk.BothX.below (by assumption) (by repeat (first | assumption | exact Below.refl _ _ | exact below_drewN _ _ | apply Below.drew)))).mono ?_; rintro e w6 ⟨rfl, hx2⟩)
              | (go_at_call 9; refine (HSA.out _ (by first | assumption | exact Dk.BothX.below (by assumption) (by repeat (first | assumption | exact Below.refl _ _ | exact below_drewN _ _ | apply Below.drew)))).mono ?_; rintro e w7 ⟨rfl, hx3⟩))
          all_goals
            go_wp2_with fail
            go_meet
            exact ⟨rfl, by assumption⟩
        case rest =>
          obtain ⟨rfl, hb9⟩ := hcut
          have HB9 := Lib.hid hb9
          clear hb9 hx0 kz
          obtain ⟨E, hE⟩ : ∃ E, E = readE A.nm.data.toList s' := ⟨_, rfl⟩
          obtain ⟨RB, hRB⟩ : ∃ RB, RB = readB A.nm.data.toList s' := ⟨_, rfl⟩
          obtain ⟨m, hm'⟩ : ∃ m, m = RB.length := ⟨_, rfl⟩
          obtain ⟨L, hL⟩ : ∃ L, L = loose A.nm.data.toList s' := ⟨_, rfl⟩
          obtain ⟨M, hM⟩ : ∃ M, M = Dk.may A.nm.data.toList := ⟨_, rfl⟩
          have hn := HIN.out.nm
          have HBT := Lib.hid (show ∀ V, Below wc.heap.size wc V → Both w bd rd s' s' V ∧ V.cell? ⟨wr.heap.size, 1, none⟩ = some (.string A.nm) from fun V hV => ⟨(HB9.out.below hV).both, cell_of_block (i := 1) (HB9.out.below hV).box⟩)
          have HRA := Lib.hid (show ∀ V, Below wc.heap.size wc V → Calls Tryz.prog 10 #[.pointer (some ⟨bd, 0, none⟩), .string A.nm] V (fun e w' => ∃ p c, e = .returned (.tuple #[.slice p m c, .int .i64 E]) ∧ Below wc.heap.size wc w') from
            fun V hV => ((HBT.out V hV).1.look (fun ρ bm blk dv hx => read_any hx HG'.out A.nm hn)).mono fun e w' ⟨v, he, hr, hb⟩ => by
              obtain ⟨p, c, rfl⟩ := own_slice hr
              exact ⟨p, c, by rw [he, hE, hm', hRB], hV.trans (hb.mono hV.size)⟩)
          have HRB := Lib.hid (show ∀ V, Below wc.heap.size wc V → Calls Tryz.prog 11 #[.pointer (some ⟨rd, 0, none⟩), .string A.nm] V (fun e w' => ∃ p c, e = .returned (.tuple #[.slice p m c, .int .i64 E]) ∧ Below wc.heap.size wc w') from
            fun V hV => ((HBT.out V hV).1.rlook (fun σ vF fv lv hx => rread_any hx HG'.out A.nm hn)).mono fun e w' ⟨v, he, hr, hb⟩ => by
              obtain ⟨p, c, rfl⟩ := own_slice hr
              exact ⟨p, c, by rw [he, hE, hm', hRB], hV.trans (hb.mono hV.size)⟩)
          have HSZ := Lib.hid (show ∀ V, Below wc.heap.size wc V → Calls Tryz.prog 12 #[.pointer (some ⟨bd, 0, none⟩), .string A.nm] V (fun e w' => e = .returned (.tuple #[.int .i64 m, .int .i64 E]) ∧ Below wc.heap.size wc w') from
            fun V hV => ((HBT.out V hV).1.look (fun ρ bm blk dv hx => size_any hx HG'.out A.nm hn)).mono fun e w' ⟨he, hb⟩ => ⟨by rw [he, hE, hm', hRB], hV.trans (hb.mono hV.size)⟩)
          have HLA := Lib.hid (show ∀ V, Below wc.heap.size wc V → Calls Tryz.prog 13 #[.pointer (some ⟨bd, 0, none⟩), .string A.nm] V (fun e w' => e = .returned (.int .i64 L) ∧ Below wc.heap.size wc w') from
            fun V hV => ((HBT.out V hV).1.look (fun ρ bm blk dv hx => loose_any hx HG'.out A.nm hn)).mono fun e w' ⟨he, hb⟩ => ⟨by rw [he, hL], hV.trans (hb.mono hV.size)⟩)
          have HLB := Lib.hid (show ∀ V, Below wc.heap.size wc V → Calls Tryz.prog 14 #[.pointer (some ⟨rd, 0, none⟩), .string A.nm] V (fun e w' => e = .returned (.int .i64 L) ∧ Below wc.heap.size wc w') from
            fun V hV => ((HBT.out V hV).1.rlook (fun σ vF fv lv hx => rloose_any hx HG'.out A.nm hn)).mono fun e w' ⟨he, hb⟩ => ⟨by rw [he, hL], hV.trans (hb.mono hV.size)⟩)
          have HMA := Lib.hid (show ∀ V, Below wc.heap.size wc V → Calls Tryz.prog 15 #[.string A.nm] V (fun e w' => e = .returned (.bool M) ∧ Below wc.heap.size wc w') from
            fun V hV => (may_any A.nm V hn).mono fun e w' ⟨he, hb⟩ => ⟨by rw [he, hM], hV.trans (hb.mono hV.size)⟩)
          have HMB := Lib.hid (show ∀ V, Below wc.heap.size wc V → Calls Tryz.prog 16 #[.string A.nm] V (fun e w' => e = .returned (.bool M) ∧ w' = V) from
            fun V hV => (rmay_any A.nm V hn).mono fun e w' ⟨he, hb⟩ => ⟨by rw [he, hM], hb⟩)
          have HC := Lib.hid (show ∀ V, Below wc.heap.size wc V → V.cell? ⟨wr.heap.size, 1, none⟩ = some (.string A.nm) ∧ Below wc.heap.size wc V from fun V hV => ⟨(HBT.out V hV).2, hV⟩)
          have kE : (E != E) = false := by simp
          have kL : (L != L) = false := by simp
          have kM : (M != M) = false := by simp
          clear hE hRB hm' hL hM hn
          have c9 := (HC.out _ (Below.refl _ _)).1
          go_wp2_with fail
          refine (HRA.out _ (Below.refl _ _)).mono ?_
          rintro e w5 ⟨pa, ca, rfl, hn5⟩
          have HN5 := Lib.hid hn5
          have c5 := (HC.out _ hn5).1
          clear c9 hn5
          go_wp2_with fail
          refine (HRB.out _ HN5.out).mono ?_
          rintro e w6 ⟨pb, cb, rfl, hn6⟩
          have HN6 := Lib.hid hn6
          have c6 := (HC.out _ hn6).1
          clear c5 hn6
          go_wp2_with fail
          refine (HSZ.out _ HN6.out).mono ?_
          rintro e w7 ⟨rfl, hn7⟩
          clear c6
          go_upto_region 18 with fail
          go_cut [111] (fun v wx => v = .bool false ∧ Below wc.heap.size wc wx)
          case first =>
            go_region_held3 (fun w' => w'.cell? ⟨wr.heap.size, 1, none⟩ = some (.string A.nm) ∧ Below wc.heap.size wc w') (exact HC.out _ (by repeat (first | assumption | exact Below.refl _ _ | exact below_drewN _ _ | apply Below.drew)))
              (first
                | (go_at_call 13; refine (HLA.out _ ?_).mono ?_; (repeat (first | assumption | exact Below.refl _ _ | exact below_drewN _ _ | apply Below.drew)); rintro e w8 ⟨rfl, hbx⟩)
                | (go_at_call 14; refine (HLB.out _ ?_).mono ?_; (repeat (first | assumption | exact Below.refl _ _ | exact below_drewN _ _ | apply Below.drew)); rintro e w8 ⟨rfl, hbx⟩)
                | (go_at_call 15; refine (HMA.out _ ?_).mono ?_; (repeat (first | assumption | exact Below.refl _ _ | exact below_drewN _ _ | apply Below.drew)); rintro e w8 ⟨rfl, hbx⟩)
                | (go_at_call 16; refine (HMB.out _ ?_).mono ?_; (repeat (first | assumption | exact Below.refl _ _ | exact below_drewN _ _ | apply Below.drew)); rintro e w8 ⟨rfl, rfl⟩))
            all_goals
              go_wp2_with fail
              go_meet
              exact ⟨rfl, by assumption⟩
          case rest =>
            obtain ⟨rfl, hbz⟩ := hcut
            have HBZ := Lib.hid hbz
            clear hbz hn7 kE kL kM
            go_wp2_with fail
            go_roundw
            case rel => exact ⟨k + 1, by omega, by go_num, s', (HBT.out _ HBZ.out).1, HG'.out⟩
            case measure => simp [intOf]; omega
      · obtain rfl : k = ml := by omega
        go_wp2_with fail
        go_ret
        exact ⟨rfl, HBO.out.base⟩
  · rw [if_neg hq] at hp2
    have HQ := Lib.hid hq
    clear hq
    obtain ⟨rfl, rfl⟩ := hp2
    go_wp2_with fail
    refine (rnew_any q w2).mono ?_
    rintro e w3 hp3
    unfold RNewPost at hp3
    rw [if_neg HQ.out] at hp3
    obtain ⟨rfl, rfl⟩ := hp3
    go_wp2_with fail
    go_ret
    exact ⟨rfl, HB1.out⟩
end Go.Proofs.YtjlchphbkmaacaaGreatDoor
