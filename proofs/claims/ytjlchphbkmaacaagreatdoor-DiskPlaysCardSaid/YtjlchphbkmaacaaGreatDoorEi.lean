/- Crash. -/
import Derived.Test.YtjlchphbkmaacaaGreatDoorEh
import Derived.Test.YtjlchphbkmaacaaGreatDoorRl
set_option linter.unusedVariables false
set_option linter.unusedSimpArgs false
namespace Go.Proofs.YtjlchphbkmaacaaGreatDoor
open Go.RowKit Go.MapKept Go.ChangeMaps Go.Maps
attribute [local go_sem ↓] Go.wp_at_zero Go.wp_at_succ
open Dk

/-- The picks of a crash: a slice of numbers, beside the disk. -/
structure Dk.PicksAt (ρ : Nat → Option Role) (w : World) (p : Option Addr) (m : Nat) (ps : List Nat) : Prop where
  len : ps.length = m
  small : ∀ x ∈ ps, x < 65536
  cells : ∀ j, j < m → ∃ a, p = some a ∧ w.cell? (a.add j) = some (.int .u16 (ps.getD j 0))
  out : 0 < m → ∀ a, p = some a → ρ a.block = none
/-- The bytes of a crash. -/
structure Dk.TornAt (ρ : Nat → Option Role) (w : World) (p : Option Addr) (m : Nat) (ts : List UInt8) : Prop where
  len : ts.length = m
  cells : ∀ j, j < m → ∃ a, p = some a ∧ w.cell? (a.add j) = some (.int .u8 (ts.getD j 0).toNat)
  out : 0 < m → ∀ a, p = some a → ρ a.block = none
theorem Dk.Fr.cellOf {ρ ρ' : Nat → Option Role} {w w' : World} (h : Fr ρ ρ' w w') {a : Addr} {v : Value} (hc : w.cell? a = some v) (ha : ρ a.block = Option.none) : w'.cell? a = some v :=
  (World.cell?_of_block (w := w) (h.block a.block (cell_lt hc) ha).1).trans hc
theorem Dk.add_block' (a : Addr) (j : Nat) : (a.add j).block = a.block := by
  unfold Addr.add
  split <;> rfl
theorem Dk.PicksAt.fr {ρ ρ' : Nat → Option Role} {w w' : World} {p : Option Addr} {m : Nat} {ps : List Nat} (h : PicksAt ρ w p m ps) (hf : Fr ρ ρ' w w') : ∀ j, j < m → ∃ a, p = some a ∧ w'.cell? (a.add j) = some (.int .u16 (ps.getD j 0)) := fun j hj => by
  obtain ⟨a, e, hc⟩ := h.cells j hj
  exact ⟨a, e, hf.cellOf hc (by rw [add_block']; exact h.out (by omega) a e)⟩
theorem Dk.TornAt.fr {ρ ρ' : Nat → Option Role} {w w' : World} {p : Option Addr} {m : Nat} {ts : List UInt8} (h : TornAt ρ w p m ts) (hf : Fr ρ ρ' w w') : ∀ j, j < m → ∃ a, p = some a ∧ w'.cell? (a.add j) = some (.int .u8 (ts.getD j 0).toNat) := fun j hj => by
  obtain ⟨a, e, hc⟩ := h.cells j hj
  exact ⟨a, e, hf.cellOf hc (by rw [add_block']; exact h.out (by omega) a e)⟩

/-- How memory stands when i files have been gone through. -/
def CrashR (ρ : Nat → Option Role) (w : World) (bd : Nat) (s : St) (bm : Nat) (blk : Nm → Nat) (picks : List Nat) (torn : List UInt8) (i : Nat) (wr : World) : Prop :=
  ∃ ρr dvr, RepX ρr wr bd { s with off := false, fuse := -1, F := crashT picks torn i 0 s.F } bm blk dvr ∧ Fr ρ ρr w wr

theorem CrashR.intro {ρ ρr : Nat → Option Role} {w wr : World} {bd : Nat} {s S : St} {bm : Nat} {blk : Nm → Nat} {dvr : Nm → Value} {picks : List Nat} {torn : List UInt8} {i : Nat}
    (h : RepX ρr wr bd S bm blk dvr) (hf : Fr ρ ρr w wr) (hS : S = { s with off := false, fuse := -1, F := crashT picks torn i 0 s.F }) : CrashR ρ w bd s bm blk picks torn i wr := by
  subst hS
  exact ⟨ρr, dvr, h, hf⟩

set_option maxRecDepth 100000 in
set_option maxHeartbeats 4000000 in
theorem crash_any {ρ : Nat → Option Role} {w : World} {bd : Nat} {s : St} {bm : Nat} {blk : Nm → Nat} {dv : Nm → Value} (h : RepX ρ w bd s bm blk dv) (hg : Fine s)
    (pp : Option Addr) (mp cp : Nat) (picks : List Nat) (hp : PicksAt ρ w pp mp picks) (pt : Option Addr) (mt ct : Nat) (torn : List UInt8) (ht : TornAt ρ w pt mt torn) :
    Calls Tryz.prog 20 #[.pointer (some ⟨bd, 0, none⟩), .slice pp mp cp, .slice pt mt ct] w (MethPost ρ w bd (0, crash picks torn s)) := by
  have c0 := h.c0
  have c3 := h.c3
  have c2 := h.c2
  have f3 : w.frozen? ⟨bd, 3, none⟩ = false := frozen_of_block h.hd
  have f2 : w.frozen? ⟨bd, 2, none⟩ = false := frozen_of_block h.hd
  obtain ⟨hpw, hpf⟩ := h.powered
  have hgp : Fine { s with off := false, fuse := -1 } := ⟨hg.files, hg.bytes, hg.q0, hg.q1, by simp, by simp, hg.fast, hg.name, hg.rise⟩
  have HG := Lib.hid hgp
  have HPW := Lib.hid hpw
  have HPF := Lib.hid hpf
  have HP := Lib.hid hp
  have HT := Lib.hid ht
  have hpl := hp.len
  have htl := ht.len
  have hans : Calls Tryz.prog 44 #[.pointer (some ⟨bd, 0, none⟩)] w fun e w' => ∃ z : Int, (z == 2) = false ∧ e = .returned (.int .i64 z) ∧ w' = w := by
    refine (answers_any bd bm s.off w c0 c3).mono ?_
    rintro e w1 ⟨rfl, rfl⟩
    exact ⟨_, by split <;> rfl, rfl, rfl⟩
  have HA := Lib.hid hans
  clear h hg hgp hpw hpf hp ht hans
  generalize s.off = off at c3
  · go_enter Tryz.func20, Tryz.ntmps20
    go_wp2_with fail
    refine HA.out.mono ?_
    rintro e w1 ⟨z, hz, rfl, rfl⟩
    go_wp2_with fail
    refine (names_any HPW.out HG.out).mono ?_
    rintro e w2 ⟨v, rfl, hrow, hb, hnil⟩
    have HB := Lib.hid hb
    have HN := Lib.hid hnil
    have HROW := Lib.hid hrow
    clear hb hnil hrow c0 c2 c3 f2 f3
    obtain ⟨pa, ca, rfl⟩ := own_slice HROW.out
    have hlen : (names { s with off := false, fuse := -1 }).length = s.F.length := by simp [names]
    rw [hlen] at HROW ⊢
    have HC := Lib.hid (show ∀ k x, s.F[k]? = some x → ∃ g, pa = some ⟨g, 0, none⟩ ∧ w2.cell? ⟨g, k, none⟩ = some (.string ⟨x.1.toArray⟩) ∧ ρ g = none from fun k x hx => by
      have hk := (List.getElem?_eq_some_iff.1 hx).1
      obtain ⟨g, cap, he, hc⟩ := row_cell HROW.out (by omega)
      simp only [Value.slice.injEq] at he
      obtain ⟨rfl, -, -⟩ := he
      have hgb := (HROW.out.lt g rfl).1
      refine ⟨g, rfl, (hc k hk).trans ?_, HPW.out.fresh hgb⟩
      simp [names, hx, encStr])
    have hstart : CrashR ρ w2 bd s bm blk picks torn 0 w2 := ⟨ρ, dv, HPW.out.below HB.out, Fr.refl _ _⟩
    have HS := Lib.hid hstart
    have HFR := Lib.hid (HPF.out.trans (Fr.of_below HB.out))
    have hfiles := HG.out.files
    simp only at hfiles
    clear hstart hlen HPW HPF HROW HN HB HA hz
    generalize hN : s.F.length = N at *
    have HNN := Lib.hid hN
    clear hN
    go_wp2_with fail
    go_loopw [7, 25] (fun t i wr => ∃ k : Nat, k ≤ N ∧ i = .int .i64 k ∧ t = .int .i64 (crashK k 0 s.F : Nat) ∧ CrashR ρ w2 bd s bm blk picks torn k wr) (fun _ i _ => N - (intOf i).toNat)
    case atStart => exact ⟨0, Nat.zero_le _, rfl, rfl, HS.out⟩
    case round =>
      obtain ⟨k, hk, rfl, rfl, hrr⟩ := hrel
      have HRR := Lib.hid hrr
      clear hrr
      by_cases hlt : k < N
      · obtain ⟨ρr, dvr, hr, hfr⟩ := HRR.out
        obtain ⟨x, hx⟩ : ∃ x, s.F[k]? = some x := ⟨_, List.getElem?_eq_getElem (by rw [HNN.out]; exact hlt)⟩
        have hxm : x ∈ s.F := List.mem_of_getElem? hx
        obtain ⟨h1, h2, h3⟩ := crashT_step (picks := picks) (torn := torn) k 0 s.F x HG.out.rise hx
        have hmem : (x.1, x.2) ∈ crashT picks torn k 0 s.F := get_mem h1
        obtain ⟨g, rfl, hcell, hρg⟩ := HC.out k x hx
        have e2 := hfr.cellOf hcell hρg
        have hname := HG.out.name x hxm
        have hrfast := HG.out.fast x hxm
        have hbig := HG.out.size_le (get_of_mem HG.out.rise hxm)
        have e3 : ∀ j, (Instr.lookup 56 (.map (some bm)) (.string ⟨x.1.toArray⟩) false).run Tryz.prog (wr.drewN j) = .ok (.pointer (some ⟨blk x.1, 0, none⟩)) (wr.drewN j) := fun j => by
          have := (hr.below (below_drewN wr j)).look ⟨x.1.toArray⟩ (by show x.1.toArray.size ≤ _; rw [List.size_toArray]; unfold maxLen; omega)
          rw [this]
          show (Result.ok (if (get x.1 (crashT picks torn k 0 s.F)).isSome then _ else _) _) = _
          rw [h1]
          rfl
        have e3' : (Instr.lookup 56 (.map (some bm)) (.string ⟨x.1.toArray⟩) false).run Tryz.prog wr = .ok (.pointer (some ⟨blk x.1, 0, none⟩)) wr := e3 0
        have c0 := hr.c0
        have e4 := hr.g0 hmem
        have e5 := hr.g1 hmem
        obtain ⟨p, c, hdv, hpn⟩ := hr.slice hmem
        rw [hdv] at e4
        simp only at e4 e5 hdv hpn
        have hw : IntKind.i64.wrap ((x.2.b.length : Int) - (x.2.fast : Int)) = x.2.b.length - x.2.fast := IntWalk.i64_in _ (by omega)
        have hkle := crashK_le k 0 s.F
        have HX := Lib.hid hx
        have H1 := Lib.hid h1
        have H2 := Lib.hid h2
        have H3 := Lib.hid h3
        have HDV := Lib.hid hdv
        have HR := Lib.hid hr
        have HF := Lib.hid hfr
        have HPN := Lib.hid hpn
        generalize hgb : blk x.1 = gb at *
        have HGB := Lib.hid hgb
        generalize hkk : crashK k 0 s.F = kk at *
        have HK := Lib.hid hkk
        clear hx hxm h1 h2 h3 hmem hcell hρg hname hr hfr hdv hgb hpn e3 hkk
        by_cases hl : x.2.b.length - x.2.fast = 0
        · have hle : (x.2.b.length : Int) - (x.2.fast : Int) = 0 := by omega
          have HL := Lib.hid hl
          clear hl
          rw [hle] at hw
          go_wp2_with fail
          go_quiet (fail)
          go_wp2_with fail
          go_roundw
          case rel =>
            refine ⟨k + 1, by omega, by go_num, ?_, ρr, dvr, ?_, ?_⟩
            · rw [H3.out, if_pos HL.out]
            · rw [H2.out, if_pos HL.out]
              exact HR.out.below (below_drewN _ _)
            · exact HF.out.trans (Fr.of_below (below_drewN _ _))
          case measure => simp [intOf]; omega
        · have hle : ((x.2.b.length : Int) - (x.2.fast : Int) == 0) = false := by
            rw [beq_eq_false_iff_ne]
            omega
          have HL := Lib.hid hl
          go_wp2_with fail
          go_quiet (fail)
          have hrq := HR.out.below (below_drewN wr nq)
          have hfq := HF.out.trans (Fr.of_below (below_drewN wr nq))
          generalize wr.drewN nq = wq at *
          have HR := Lib.hid hrq
          have HF := Lib.hid hfq
          have HFW := Lib.hid (HFR.out.trans hfq)
          have e4 : wq.cell? ⟨gb, 0, none⟩ = some (.slice p x.2.b.length c) := by
            have := hrq.g0 (get_mem H1.out)
            rw [HDV.out, HGB.out] at this
            exact this
          have e5 : wq.cell? ⟨gb, 1, none⟩ = some (.int .i64 x.2.fast) := by
            have := hrq.g1 (get_mem H1.out)
            rw [HGB.out] at this
            exact this
          clear hrq hfq
          by_cases hkm : kk < mp
          · obtain ⟨a, rfl, hpc⟩ := HP.out.fr HFW.out kk hkm
            have hps : (picks.getD kk 0) < 65536 := HP.out.small _ (by
              rw [List.getD_eq_getElem?_getD, List.getElem?_eq_getElem (by omega)]
              exact List.getElem_mem _)
            generalize hpk : picks.getD kk 0 = pk at *
            have HPK := Lib.hid hpk
            clear hpk
            obtain ⟨st, hst, hstI, hstle⟩ : ∃ st : Nat, Dk.stays picks kk x.2 = st ∧ (pk : Int) % ((x.2.b.length : Int) - (x.2.fast : Int) + 1) = (st : Int) ∧ x.2.fast + st ≤ x.2.b.length := by
              refine ⟨pk % (x.2.b.length - x.2.fast + 1), ?_, ?_, ?_⟩
              · unfold Dk.stays
                rw [if_pos (by omega), HPK.out]
              · have : ((x.2.b.length : Int) - (x.2.fast : Int) + 1) = ((x.2.b.length - x.2.fast + 1 : Nat) : Int) := by omega
                rw [this]
                rfl
              · have := Nat.mod_lt pk (show 0 < x.2.b.length - x.2.fast + 1 by omega)
                omega
            have HST := Lib.hid hst
            clear hst
            go_wp2_with fail
            obtain ⟨q, hqs⟩ : ∃ q, q = x.2.fast + st := ⟨_, rfl⟩
            have hq : (x.2.fast : Int) + (st : Int) = (q : Int) := by omega
            have HQ := Lib.hid hqs
            have hqle : q ≤ x.2.b.length := by omega
            have hwq : IntKind.i64.wrap (q : Int) = q := IntWalk.i64_in _ (by omega)
            simp only [hstI]
            clear hw hle hstI e2 e3' c0 hps hpc hqs
            have hrow := HR.out.hv _ (get_mem H1.out)
            have hblk := HR.out.hf _ (get_mem H1.out)
            simp only at hrow hblk
            rw [HDV.out] at hrow
            rw [HDV.out, HGB.out] at hblk
            have HRow := Lib.hid hrow
            have HBK := Lib.hid hblk
            clear hrow hblk
            rcases HRow.out.2 with ⟨he, hz⟩ | ⟨g', cap, cur, he, _, hgb', hc1, hc2, hcs, hct⟩
            · exact absurd hz (by omega)
            simp only [Value.slice.injEq] at he
            obtain ⟨rfl, -, rfl⟩ := he
            have hqc : (q : Int) ≤ (c : Int) := by omega
            have hq0 : (0 : Int) ≤ (q : Int) := by omega
            have hcells : ∀ i, i < q → wq.cell? ((⟨g', 0, none⟩ : Addr).add i) = some (.int .u8 (((x.2.b.take q).map fun c => (c.toNat : Int)).getD i 0)) := by
              intro i hi
              have e1 : (⟨g', 0, none⟩ : Addr).add i = ⟨g', i, none⟩ := by
                unfold Addr.add
                split
                · rename_i h0; rw [h0]
                · simp
              rw [e1, cell_of_block hgb']
              have e2 : cur.toList[i]? = (x.2.b.map encU8)[i]? := by
                rw [← hct, List.getElem?_take, if_pos (by omega)]
              rw [← Array.getElem?_toList, e2]
              have h1 : i < x.2.b.length := by omega
              simp [h1, hi, encU8, List.getD, List.getElem?_take]
            have HCE := Lib.hid hcells
            have HEE := Lib.hid (And.intro e4 e5)
            clear hcells hgb' hcs hct e4 e5
            refine Late.start (fun w' => w'.cell? ⟨gb, 0, none⟩ = some (.slice (some ⟨g', 0, none⟩) x.2.b.length c) ∧ w'.cell? ⟨gb, 1, none⟩ = some (.int .i64 x.2.fast)) 15 (by kernel_rfl) ?_ (fun hHeld => ?_)
            · exact HEE.out
            refine Late.take (i := 0) (oi := _) (v := (.pointer (some ⟨gb, 0, none⟩))) rfl (by kernel_rfl) (by kernel_rfl) (by kernel_rfl) (fun _ _ _ h => h) (by kernel_rfl) (Or.inl ⟨by rfl, ?_⟩) (by assumption) ?_
            · intro w' hSw
              (try dsimp only at hSw)
              go_simp
            (try simp only [Act.put, List.setIfInBounds_toArray, List.set_cons_zero, List.set_cons_succ])
            refine Late.take (i := 1) (oi := _) (v := (.pointer (some ⟨gb, 0, none⟩))) rfl (by kernel_rfl) (by kernel_rfl) (by kernel_rfl) (fun _ _ _ h => h) (by kernel_rfl) (Or.inl ⟨by rfl, ?_⟩) (by assumption) ?_
            · intro w' hSw
              (try dsimp only at hSw)
              go_simp
            (try simp only [Act.put, List.setIfInBounds_toArray, List.set_cons_zero, List.set_cons_succ])
            refine Late.take (i := 2) (oi := _) (v := (.pointer (some ⟨gb, 0, none⟩))) rfl (by kernel_rfl) (by kernel_rfl) (by kernel_rfl) (fun _ _ _ h => h) (by kernel_rfl) (Or.inl ⟨by rfl, ?_⟩) (by assumption) ?_
            · intro w' hSw
              (try dsimp only at hSw)
              go_simp
            (try simp only [Act.put, List.setIfInBounds_toArray, List.set_cons_zero, List.set_cons_succ])
            refine Late.take (i := 3) (oi := _) (v := (.pointer (some ⟨gb, 0, none⟩))) rfl (by kernel_rfl) (by kernel_rfl) (by kernel_rfl) (fun _ _ _ h => h) (by kernel_rfl) (Or.inl ⟨by rfl, ?_⟩) (by assumption) ?_
            · intro w' hSw
              (try dsimp only at hSw)
              go_simp
            (try simp only [Act.put, List.setIfInBounds_toArray, List.set_cons_zero, List.set_cons_succ])
            refine Late.take (i := 4) (oi := _) (v := (.slice (some ⟨g', 0, none⟩) x.2.b.length c)) rfl (by kernel_rfl) (by kernel_rfl) (by kernel_rfl) (fun _ _ _ h => h) (by kernel_rfl) (Or.inl ⟨by rfl, ?_⟩) (by assumption) ?_
            · intro w' hSw
              (try dsimp only at hSw)
              go_simp
            (try simp only [Act.put, List.setIfInBounds_toArray, List.set_cons_zero, List.set_cons_succ])
            refine Late.take (i := 5) (oi := _) (v := (.pointer (some ⟨gb, 0, none⟩))) rfl (by kernel_rfl) (by kernel_rfl) (by kernel_rfl) (fun _ _ _ h => h) (by kernel_rfl) (Or.inl ⟨by rfl, ?_⟩) (by assumption) ?_
            · intro w' hSw
              (try dsimp only at hSw)
              go_simp
            (try simp only [Act.put, List.setIfInBounds_toArray, List.set_cons_zero, List.set_cons_succ])
            refine Late.take (i := 6) (oi := _) (v := (.pointer (some ⟨gb, 0, none⟩))) rfl (by kernel_rfl) (by kernel_rfl) (by kernel_rfl) (fun _ _ _ h => h) (by kernel_rfl) (Or.inl ⟨by rfl, ?_⟩) (by assumption) ?_
            · intro w' hSw
              (try dsimp only at hSw)
              go_simp
            (try simp only [Act.put, List.setIfInBounds_toArray, List.set_cons_zero, List.set_cons_succ])
            refine Late.take (i := 7) (oi := _) (v := (.pointer (some ⟨gb, 1, none⟩))) rfl (by kernel_rfl) (by kernel_rfl) (by kernel_rfl) (fun _ _ _ h => h) (by kernel_rfl) (Or.inl ⟨by rfl, ?_⟩) (by assumption) ?_
            · intro w' hSw
              (try dsimp only at hSw)
              go_simp
            (try simp only [Act.put, List.setIfInBounds_toArray, List.set_cons_zero, List.set_cons_succ])
            refine Late.take (i := 8) (oi := _) (v := (.int .i64 x.2.fast)) rfl (by kernel_rfl) (by kernel_rfl) (by kernel_rfl) (fun _ _ _ h => h) (by kernel_rfl) (Or.inl ⟨by rfl, ?_⟩) (by assumption) ?_
            · intro w' hSw
              (try dsimp only at hSw)
              go_simp
            (try simp only [Act.put, List.setIfInBounds_toArray, List.set_cons_zero, List.set_cons_succ])
            refine Late.take (i := 9) (oi := _) (v := (.int .i64 (st : Int))) rfl (by kernel_rfl) (by kernel_rfl) (by kernel_rfl) (fun _ _ _ h => h) (by kernel_rfl) (Or.inl ⟨by rfl, ?_⟩) (by assumption) ?_
            · intro w' hSw
              (try dsimp only at hSw)
              go_simp
            (try simp only [Act.put, List.setIfInBounds_toArray, List.set_cons_zero, List.set_cons_succ])
            refine Late.take (i := 10) (oi := _) (v := (.int .i64 (q : Nat))) rfl (by kernel_rfl) (by kernel_rfl) (by kernel_rfl) (fun _ _ _ h => h) (by kernel_rfl) (Or.inl ⟨by rfl, ?_⟩) (by assumption) ?_
            · intro w' hSw
              (try dsimp only at hSw)
              go_simp
            (try simp only [Act.put, List.setIfInBounds_toArray, List.set_cons_zero, List.set_cons_succ])
            refine Late.take (i := 11) (oi := _) (v := (.slice (some ⟨g', 0, none⟩) (q) c)) rfl (by kernel_rfl) (by kernel_rfl) (by kernel_rfl) (fun _ _ _ h => h) (by kernel_rfl) (Or.inl ⟨by rfl, ?_⟩) (by assumption) ?_
            · intro w' hSw
              (try dsimp only at hSw)
              go_simp
            (try simp only [Act.put, List.setIfInBounds_toArray, List.set_cons_zero, List.set_cons_succ])
            refine Late.step (i := 12) (o := _) (by kernel_rfl) rfl (fun K hK => ?_)
            go_simp
            refine (clone_any ⟨g', 0, none⟩ (q) c ((x.2.b.take (q)).map fun c => (c.toNat : Int)) _ (by simp; omega) (by omega) HCE.out).mono ?_
            rintro e w3 ⟨v', rfl, hrow3, hne3, hb3⟩
            have hb3' : Below wq.heap.size wq w3 := ((Below.refl wq.heap.size wq).drew).trans hb3
            have HR3 := Lib.hid hrow3
            obtain ⟨p', c', rfl⟩ := own_slice hrow3
            have HCW := Lib.hid (And.intro ((hb3'.cell (cell_lt HEE.out.1)).trans HEE.out.1) ((hb3'.cell (cell_lt HEE.out.2)).trans HEE.out.2))
            have HB33 := Lib.hid hb3'
            clear hrow3 hne3 hb3 hb3'
            refine hK.out _ _ ?_ (fun hHeld => ?_)
            · exact HCW.out
            clear hK K
            (try simp only [Act.put, List.setIfInBounds_toArray, List.set_cons_zero, List.set_cons_succ])
            refine Late.step (i := 13) (o := _) (by kernel_rfl) rfl (fun K hK => ?_)
            go_simp
            refine hK.out _ _ ?_ (fun hHeld => ?_)
            · exact HCW.out
            clear hK K
            (try simp only [Act.put, List.setIfInBounds_toArray, List.set_cons_zero, List.set_cons_succ])
            refine Late.step (i := 14) (o := _) (by kernel_rfl) rfl (fun K hK => ?_)
            go_simp
            refine hK.out _ _ ?_ (fun hHeld => ?_)
            · exact HCW.out
            clear hK K
            (try simp only [Act.put, List.setIfInBounds_toArray, List.set_cons_zero, List.set_cons_succ])
            have c4' := HCW.out.1
            have f4 : w3.frozen? ⟨gb, 0, none⟩ = false := frozen_of_block ((HB33.out.block gb (cell_lt HEE.out.1)).trans HBK.out)
            refine Late.last (L := 15) (o := _) (by kernel_rfl) rfl (by kernel_rfl) (fun K hK => ?_)
            go_simp
            refine hK.out _ _ ?_
            clear hK K
            (try simp only [Act.put, List.setIfInBounds_toArray, List.set_cons_zero, List.set_cons_succ])
            refine Late.done (by kernel_rfl) ?_ _
            clear c4' f4
            have hrow3 := HR3.out
            have em : ((x.2.b.take (q)).map fun c => (c.toNat : Int)).map (Value.int .u8) = (x.2.b.take (q)).map encU8 := by rw [List.map_map]; rfl
            have el : (x.2.b.take (q)).length = q := by rw [List.length_take]; omega
            rw [em] at hrow3
            obtain ⟨ρ4, hr4, hf4⟩ := HR.out.one H1.out HB33.out (.slice p' (q) c') (x.2.b.take (q)) (by rw [el]; exact hrow3)
            rw [HGB.out] at hr4 hf4
            generalize w3.setCell ⟨gb, 0, none⟩ (.slice p' (q) c') = w4 at *
            have HR4 := Lib.hid hr4
            have HF4 := Lib.hid hf4
            have HEL := Lib.hid el
            have g4 := get_setF (g := ⟨x.2.b.take (q), x.2.fast⟩) H1.out
            have e4 : w4.cell? ⟨gb, 0, none⟩ = some (.slice p' (q) c') := by
              have := hr4.g0 (get_mem g4)
              rw [updV_same, HGB.out] at this
              exact this
            have e5 : w4.cell? ⟨gb, 1, none⟩ = some (.int .i64 x.2.fast) := by
              have := hr4.g1 (get_mem g4)
              rw [HGB.out] at this
              exact this
            have G4 := Lib.hid g4
            clear hrow3 em el hr4 hf4 g4
            by_cases hst0 : 0 < st
            · by_cases hkt : kk < mt
              · obtain ⟨a2, rfl, htc⟩ := HT.out.fr (HFW.out.trans HF4.out) kk hkt
                obtain ⟨r, hr1, hrq⟩ : ∃ r : Nat, (q : Int) - 1 = (r : Int) ∧ r + 1 = q := ⟨q - 1, by omega, by omega⟩
                have hrow := HR4.out.hv _ (get_mem G4.out)
                simp only at hrow
                rw [updV_same, HEL.out] at hrow
                rcases hrow.2 with ⟨he, hz⟩ | ⟨g2, cap, cur, he, _, hgb', hc1, hc2, hcs, hct⟩
                · exact absurd hz (by omega)
                simp only [Value.slice.injEq] at he
                obtain ⟨rfl, -, rfl⟩ := he
                have hcell : w4.cell? ⟨g2, r, none⟩ = some (.int .u8 ((x.2.b.take q).getD r 0).toNat) := by
                  rw [cell_of_block hgb']
                  have e2 : cur.toList[r]? = ((x.2.b.take q).map encU8)[r]? := by
                    rw [← hct, List.getElem?_take, if_pos (by omega)]
                  rw [← Array.getElem?_toList, e2]
                  have h1 : r < (x.2.b.take q).length := by rw [HEL.out]; omega
                  rw [List.getElem?_map, List.getElem?_eq_getElem h1, List.getD_eq_getElem?_getD, List.getElem?_eq_getElem h1]
                  rfl
                have f6 : w4.frozen? ⟨g2, r, none⟩ = false := frozen_of_block hgb'
                generalize htb : torn.getD kk 0 = tb at *
                generalize hlb : (x.2.b.take q).getD r 0 = lb at *
                have HTB := Lib.hid htb
                have HLB := Lib.hid hlb
                have HF6 := Lib.hid f6
                have HW4 := Lib.hid (And.intro e4 (And.intro hcell htc))
                clear hrow hgb' hc1 hc2 hcs hct htb hlb f6
                have hwr : IntKind.i64.wrap (r : Int) = r := IntWalk.i64_in _ (by omega)
                have hrq' : (r : Int) < (q : Int) := by omega
                have hxb := bits_xor_u8 lb tb
                clear hcell htc e4
                go_wp2_with fail
                refine Late.start (fun w' => w'.cell? ⟨gb, 0, none⟩ = some (.slice (some ⟨g2, 0, none⟩) q c') ∧ w'.cell? ⟨g2, r, none⟩ = some (.int .u8 lb.toNat) ∧ w'.cell? (a2.add kk) = some (.int .u8 tb.toNat)) 18 (by kernel_rfl) ?_ (fun hHeld => ?_)
                · exact HW4.out
                refine Late.take (i := 0) (oi := _) (v := (.pointer (some ⟨gb, 0, none⟩))) rfl (by kernel_rfl) (by kernel_rfl) (by kernel_rfl) (fun _ _ _ h => h) (by kernel_rfl) (Or.inl ⟨by rfl, ?_⟩) (by assumption) ?_
                · intro w' hSw
                  (try dsimp only at hSw)
                  go_simp
                (try simp only [Act.put, List.setIfInBounds_toArray, List.set_cons_zero, List.set_cons_succ])
                refine Late.take (i := 1) (oi := _) (v := (.pointer (some ⟨gb, 0, none⟩))) rfl (by kernel_rfl) (by kernel_rfl) (by kernel_rfl) (fun _ _ _ h => h) (by kernel_rfl) (Or.inl ⟨by rfl, ?_⟩) (by assumption) ?_
                · intro w' hSw
                  (try dsimp only at hSw)
                  go_simp
                (try simp only [Act.put, List.setIfInBounds_toArray, List.set_cons_zero, List.set_cons_succ])
                refine Late.take (i := 2) (oi := _) (v := (.pointer (some ⟨gb, 0, none⟩))) rfl (by kernel_rfl) (by kernel_rfl) (by kernel_rfl) (fun _ _ _ h => h) (by kernel_rfl) (Or.inl ⟨by rfl, ?_⟩) (by assumption) ?_
                · intro w' hSw
                  (try dsimp only at hSw)
                  go_simp
                (try simp only [Act.put, List.setIfInBounds_toArray, List.set_cons_zero, List.set_cons_succ])
                refine Late.take (i := 3) (oi := _) (v := (.slice (some ⟨g2, 0, none⟩) q c')) rfl (by kernel_rfl) (by kernel_rfl) (by kernel_rfl) (fun _ _ _ h => h) (by kernel_rfl) (Or.inl ⟨by rfl, ?_⟩) (by assumption) ?_
                · intro w' hSw
                  (try dsimp only at hSw)
                  go_simp
                (try simp only [Act.put, List.setIfInBounds_toArray, List.set_cons_zero, List.set_cons_succ])
                refine Late.take (i := 4) (oi := _) (v := (.pointer (some ⟨gb, 0, none⟩))) rfl (by kernel_rfl) (by kernel_rfl) (by kernel_rfl) (fun _ _ _ h => h) (by kernel_rfl) (Or.inl ⟨by rfl, ?_⟩) (by assumption) ?_
                · intro w' hSw
                  (try dsimp only at hSw)
                  go_simp
                (try simp only [Act.put, List.setIfInBounds_toArray, List.set_cons_zero, List.set_cons_succ])
                refine Late.take (i := 5) (oi := _) (v := (.pointer (some ⟨gb, 0, none⟩))) rfl (by kernel_rfl) (by kernel_rfl) (by kernel_rfl) (fun _ _ _ h => h) (by kernel_rfl) (Or.inl ⟨by rfl, ?_⟩) (by assumption) ?_
                · intro w' hSw
                  (try dsimp only at hSw)
                  go_simp
                (try simp only [Act.put, List.setIfInBounds_toArray, List.set_cons_zero, List.set_cons_succ])
                refine Late.take (i := 6) (oi := _) (v := (.pointer (some ⟨gb, 0, none⟩))) rfl (by kernel_rfl) (by kernel_rfl) (by kernel_rfl) (fun _ _ _ h => h) (by kernel_rfl) (Or.inl ⟨by rfl, ?_⟩) (by assumption) ?_
                · intro w' hSw
                  (try dsimp only at hSw)
                  go_simp
                (try simp only [Act.put, List.setIfInBounds_toArray, List.set_cons_zero, List.set_cons_succ])
                refine Late.take (i := 7) (oi := _) (v := (.slice (some ⟨g2, 0, none⟩) q c')) rfl (by kernel_rfl) (by kernel_rfl) (by kernel_rfl) (fun _ _ _ h => h) (by kernel_rfl) (Or.inl ⟨by rfl, ?_⟩) (by assumption) ?_
                · intro w' hSw
                  (try dsimp only at hSw)
                  go_simp
                (try simp only [Act.put, List.setIfInBounds_toArray, List.set_cons_zero, List.set_cons_succ])
                refine Late.take (i := 8) (oi := _) (v := (.int .i64 (q : Nat))) rfl (by kernel_rfl) (by kernel_rfl) (by kernel_rfl) (fun _ _ _ h => h) (by kernel_rfl) (Or.inl ⟨by rfl, ?_⟩) (by assumption) ?_
                · intro w' hSw
                  (try dsimp only at hSw)
                  go_simp
                (try simp only [Act.put, List.setIfInBounds_toArray, List.set_cons_zero, List.set_cons_succ])
                refine Late.take (i := 9) (oi := _) (v := (.int .i64 (r : Nat))) rfl (by kernel_rfl) (by kernel_rfl) (by kernel_rfl) (fun _ _ _ h => h) (by kernel_rfl) (Or.inl ⟨by rfl, ?_⟩) (by assumption) ?_
                · intro w' hSw
                  (try dsimp only at hSw)
                  go_simp
                (try simp only [Act.put, List.setIfInBounds_toArray, List.set_cons_zero, List.set_cons_succ])
                refine Late.take (i := 10) (oi := _) (v := (.pointer (some ⟨g2, r, none⟩))) rfl (by kernel_rfl) (by kernel_rfl) (by kernel_rfl) (fun _ _ _ h => h) (by kernel_rfl) (Or.inl ⟨by rfl, ?_⟩) (by assumption) ?_
                · intro w' hSw
                  (try dsimp only at hSw)
                  go_simp
                (try simp only [Act.put, List.setIfInBounds_toArray, List.set_cons_zero, List.set_cons_succ])
                refine Late.take (i := 11) (oi := _) (v := (.int .u8 lb.toNat)) rfl (by kernel_rfl) (by kernel_rfl) (by kernel_rfl) (fun _ _ _ h => h) (by kernel_rfl) (Or.inl ⟨by rfl, ?_⟩) (by assumption) ?_
                · intro w' hSw
                  (try dsimp only at hSw)
                  go_simp
                (try simp only [Act.put, List.setIfInBounds_toArray, List.set_cons_zero, List.set_cons_succ])
                refine Late.take (i := 12) (oi := _) (v := (.slice (some a2) mt ct)) rfl (by kernel_rfl) (by kernel_rfl) (by kernel_rfl) (fun _ _ _ h => h) (by kernel_rfl) (Or.inl ⟨by rfl, ?_⟩) (by assumption) ?_
                · intro w' hSw
                  (try dsimp only at hSw)
                  go_simp
                (try simp only [Act.put, List.setIfInBounds_toArray, List.set_cons_zero, List.set_cons_succ])
                refine Late.take (i := 13) (oi := _) (v := (.int .i64 (kk : Nat))) rfl (by kernel_rfl) (by kernel_rfl) (by kernel_rfl) (fun _ _ _ h => h) (by kernel_rfl) (Or.inl ⟨by rfl, ?_⟩) (by assumption) ?_
                · intro w' hSw
                  (try dsimp only at hSw)
                  go_simp
                (try simp only [Act.put, List.setIfInBounds_toArray, List.set_cons_zero, List.set_cons_succ])
                refine Late.take (i := 14) (oi := _) (v := (.pointer (some (a2.add kk)))) rfl (by kernel_rfl) (by kernel_rfl) (by kernel_rfl) (fun _ _ _ h => h) (by kernel_rfl) (Or.inl ⟨by rfl, ?_⟩) (by assumption) ?_
                · intro w' hSw
                  (try dsimp only at hSw)
                  go_simp
                (try simp only [Act.put, List.setIfInBounds_toArray, List.set_cons_zero, List.set_cons_succ])
                refine Late.take (i := 15) (oi := _) (v := (.int .u8 tb.toNat)) rfl (by kernel_rfl) (by kernel_rfl) (by kernel_rfl) (fun _ _ _ h => h) (by kernel_rfl) (Or.inl ⟨by rfl, ?_⟩) (by assumption) ?_
                · intro w' hSw
                  (try dsimp only at hSw)
                  go_simp
                (try simp only [Act.put, List.setIfInBounds_toArray, List.set_cons_zero, List.set_cons_succ])
                refine Late.take (i := 16) (oi := _) (v := (.int .u8 (lb.toNat ^^^ tb.toNat : Nat))) rfl (by kernel_rfl) (by kernel_rfl) (by kernel_rfl) (fun _ _ _ h => h) (by kernel_rfl) (Or.inl ⟨by rfl, ?_⟩) (by assumption) ?_
                · intro w' hSw
                  (try dsimp only at hSw)
                  go_simp
                (try simp only [Act.put, List.setIfInBounds_toArray, List.set_cons_zero, List.set_cons_succ])
                refine Late.step (i := 17) (o := _) (by kernel_rfl) rfl (fun K hK => ?_)
                go_simp
                refine hK.out _ _ ?_ (fun hHeld => ?_)
                · exact HW4.out
                clear hK K
                (try simp only [Act.put, List.setIfInBounds_toArray, List.set_cons_zero, List.set_cons_succ])
                have hcell := HW4.out.2.1
                have f6 := HF6.out
                refine Late.last (L := 18) (o := _) (by kernel_rfl) rfl (by kernel_rfl) (fun K hK => ?_)
                go_simp
                refine hK.out _ _ ?_
                clear hK K
                (try simp only [Act.put, List.setIfInBounds_toArray, List.set_cons_zero, List.set_cons_succ])
                refine Late.done (by kernel_rfl) ?_ _
                obtain ⟨ρ5, hr5, hf5⟩ := HR4.out.byteSet G4.out (updV_same _ _ _) r (by show r < (x.2.b.take q).length; rw [HEL.out]; omega) (lb ^^^ tb)
                have hdr := (Below.refl (w4.setCell ⟨g2, r, none⟩ (.int .u8 (lb ^^^ tb).toNat)).heap.size (w4.setCell ⟨g2, r, none⟩ (.int .u8 (lb ^^^ tb).toNat))).drew
                replace hr5 := hr5.below hdr
                replace hf5 := HF4.out.trans (hf5.trans (Fr.of_below hdr))
                clear hdr hxb hcell f6 hwr hr1
                rw [UInt8.toNat_xor] at hr5 hf5
                generalize (w4.setCell ⟨g2, r, none⟩ (.int .u8 (lb.toNat ^^^ tb.toNat : Nat))).drew = w5 at *
                have g5 := get_setF (g := ⟨(x.2.b.take q).set r (lb ^^^ tb), x.2.fast⟩) G4.out
                have e4 : w5.cell? ⟨gb, 0, none⟩ = some (.slice (some ⟨g2, 0, none⟩) q c') := by
                  have := hr5.g0 (get_mem g5)
                  rw [updV_same, updV_same, HGB.out] at this
                  exact this
                clear e5
                have e5 : w5.cell? ⟨gb, 1, none⟩ = some (.int .i64 x.2.fast) := by
                  have := hr5.g1 (get_mem g5)
                  rw [HGB.out] at this
                  exact this
                have f7 : w5.frozen? ⟨gb, 1, none⟩ = false := frozen_of_block (by have := hr5.hf _ (get_mem g5); rw [HGB.out] at this; exact this)
                have HR5 := Lib.hid hr5
                have HF5 := Lib.hid hf5
                have G5 := Lib.hid g5
                clear hr5 hf5 g5
                go_wp2_with fail
                go_roundw
                case rel =>
                  obtain ⟨ρ6, hr6, hf6⟩ := HR5.out.fastSet G5.out (q)
                  rw [HGB.out] at hr6 hf6
                  refine ⟨k + 1, by omega, by go_num, ?_, CrashR.intro hr6 (HF.out.trans (HF5.out.trans hf6)) ?_⟩
                  · rw [H3.out, if_neg HL.out]
                    go_num
                  · rw [H2.out, if_neg HL.out]
                    have hF : setF x.1 (crash1 picks torn kk x.2) (crashT picks torn k 0 s.F) = setF x.1 ⟨((x.2.b.take q).set r (lb ^^^ tb)), q⟩ (setF x.1 ⟨((x.2.b.take q).set r (lb ^^^ tb)), x.2.fast⟩ (setF x.1 ⟨x.2.b.take q, x.2.fast⟩ (crashT picks torn k 0 s.F))) := by
                      rw [setF_setF, setF_setF]
                      congr 1
                      unfold crash1 torn1
                      rw [HST.out, ← HQ.out]
                      rw [if_pos ⟨hst0, by omega⟩, HEL.out, show q - 1 = r by omega, HLB.out, HTB.out]
                    rw [hF]
                case measure => simp [intOf]; omega
              · skip
                have f7 : w4.frozen? ⟨gb, 1, none⟩ = false := frozen_of_block (by have := HR4.out.hf _ (get_mem G4.out); rw [HGB.out] at this; exact this)
                go_wp2_with fail
                go_roundw
                case rel =>
                  obtain ⟨ρ6, hr6, hf6⟩ := HR4.out.fastSet G4.out (q)
                  rw [HGB.out] at hr6 hf6
                  refine ⟨k + 1, by omega, by go_num, ?_, CrashR.intro hr6 (HF.out.trans (HF4.out.trans hf6)) ?_⟩
                  · rw [H3.out, if_neg HL.out]
                    go_num
                  · rw [H2.out, if_neg HL.out]
                    have hF : setF x.1 (crash1 picks torn kk x.2) (crashT picks torn k 0 s.F) = setF x.1 ⟨(x.2.b.take q), q⟩ (setF x.1 ⟨x.2.b.take q, x.2.fast⟩ (crashT picks torn k 0 s.F)) := by
                      rw [setF_setF]
                      congr 1
                      unfold crash1 torn1
                      rw [HST.out, ← HQ.out]
                      rw [if_neg (fun h => hkt (by have := h.2; omega))]
                    rw [hF]
                case measure => simp [intOf]; omega
            · skip
              have f7 : w4.frozen? ⟨gb, 1, none⟩ = false := frozen_of_block (by have := HR4.out.hf _ (get_mem G4.out); rw [HGB.out] at this; exact this)
              go_wp2_with fail
              go_roundw
              case rel =>
                obtain ⟨ρ6, hr6, hf6⟩ := HR4.out.fastSet G4.out (q)
                rw [HGB.out] at hr6 hf6
                refine ⟨k + 1, by omega, by go_num, ?_, CrashR.intro hr6 (HF.out.trans (HF4.out.trans hf6)) ?_⟩
                · rw [H3.out, if_neg HL.out]
                  go_num
                · rw [H2.out, if_neg HL.out]
                  have hF : setF x.1 (crash1 picks torn kk x.2) (crashT picks torn k 0 s.F) = setF x.1 ⟨(x.2.b.take q), q⟩ (setF x.1 ⟨x.2.b.take q, x.2.fast⟩ (crashT picks torn k 0 s.F)) := by
                    rw [setF_setF]
                    congr 1
                    unfold crash1 torn1
                    rw [HST.out, ← HQ.out]
                    rw [if_neg (fun h => hst0 h.1)]
                  rw [hF]
              case measure => simp [intOf]; omega
          · obtain ⟨st, hst, hstI, hstle⟩ : ∃ st : Nat, Dk.stays picks kk x.2 = st ∧ (0 : Int) = (st : Int) ∧ x.2.fast + st ≤ x.2.b.length := by
              refine ⟨0, ?_, rfl, by omega⟩
              unfold Dk.stays
              rw [if_neg (by omega)]
            obtain rfl : st = 0 := by omega
            have HST := Lib.hid hst
            clear hst hstI
            go_wp2_with fail
            have hwf : IntKind.i64.wrap (x.2.fast : Int) = x.2.fast := IntWalk.i64_in _ (by omega)
            clear hw hle e2 e3' c0
            have hrow := HR.out.hv _ (get_mem H1.out)
            have hblk := HR.out.hf _ (get_mem H1.out)
            simp only at hrow hblk
            rw [HDV.out] at hrow
            rw [HDV.out, HGB.out] at hblk
            have HRow := Lib.hid hrow
            have HBK := Lib.hid hblk
            clear hrow hblk
            rcases HRow.out.2 with ⟨he, hz⟩ | ⟨g', cap, cur, he, _, hgb', hc1, hc2, hcs, hct⟩
            · exact absurd hz (by omega)
            simp only [Value.slice.injEq] at he
            obtain ⟨rfl, -, rfl⟩ := he
            have hqc : (x.2.fast : Int) ≤ (c : Int) := by omega
            have hq0 : (0 : Int) ≤ (x.2.fast : Int) := by omega
            have hcells : ∀ i, i < x.2.fast → wq.cell? ((⟨g', 0, none⟩ : Addr).add i) = some (.int .u8 (((x.2.b.take x.2.fast).map fun c => (c.toNat : Int)).getD i 0)) := by
              intro i hi
              have e1 : (⟨g', 0, none⟩ : Addr).add i = ⟨g', i, none⟩ := by
                unfold Addr.add
                split
                · rename_i h0; rw [h0]
                · simp
              rw [e1, cell_of_block hgb']
              have e2 : cur.toList[i]? = (x.2.b.map encU8)[i]? := by
                rw [← hct, List.getElem?_take, if_pos (by omega)]
              rw [← Array.getElem?_toList, e2]
              have h1 : i < x.2.b.length := by omega
              simp [h1, hi, encU8, List.getD, List.getElem?_take]
            have HCE := Lib.hid hcells
            have HEE := Lib.hid (And.intro e4 e5)
            clear hcells hgb' hcs hct e4 e5
            refine Late.start (fun w' => w'.cell? ⟨gb, 0, none⟩ = some (.slice (some ⟨g', 0, none⟩) x.2.b.length c) ∧ w'.cell? ⟨gb, 1, none⟩ = some (.int .i64 x.2.fast)) 15 (by kernel_rfl) ?_ (fun hHeld => ?_)
            · exact HEE.out
            refine Late.take (i := 0) (oi := _) (v := (.pointer (some ⟨gb, 0, none⟩))) rfl (by kernel_rfl) (by kernel_rfl) (by kernel_rfl) (fun _ _ _ h => h) (by kernel_rfl) (Or.inl ⟨by rfl, ?_⟩) (by assumption) ?_
            · intro w' hSw
              (try dsimp only at hSw)
              go_simp
            (try simp only [Act.put, List.setIfInBounds_toArray, List.set_cons_zero, List.set_cons_succ])
            refine Late.take (i := 1) (oi := _) (v := (.pointer (some ⟨gb, 0, none⟩))) rfl (by kernel_rfl) (by kernel_rfl) (by kernel_rfl) (fun _ _ _ h => h) (by kernel_rfl) (Or.inl ⟨by rfl, ?_⟩) (by assumption) ?_
            · intro w' hSw
              (try dsimp only at hSw)
              go_simp
            (try simp only [Act.put, List.setIfInBounds_toArray, List.set_cons_zero, List.set_cons_succ])
            refine Late.take (i := 2) (oi := _) (v := (.pointer (some ⟨gb, 0, none⟩))) rfl (by kernel_rfl) (by kernel_rfl) (by kernel_rfl) (fun _ _ _ h => h) (by kernel_rfl) (Or.inl ⟨by rfl, ?_⟩) (by assumption) ?_
            · intro w' hSw
              (try dsimp only at hSw)
              go_simp
            (try simp only [Act.put, List.setIfInBounds_toArray, List.set_cons_zero, List.set_cons_succ])
            refine Late.take (i := 3) (oi := _) (v := (.pointer (some ⟨gb, 0, none⟩))) rfl (by kernel_rfl) (by kernel_rfl) (by kernel_rfl) (fun _ _ _ h => h) (by kernel_rfl) (Or.inl ⟨by rfl, ?_⟩) (by assumption) ?_
            · intro w' hSw
              (try dsimp only at hSw)
              go_simp
            (try simp only [Act.put, List.setIfInBounds_toArray, List.set_cons_zero, List.set_cons_succ])
            refine Late.take (i := 4) (oi := _) (v := (.slice (some ⟨g', 0, none⟩) x.2.b.length c)) rfl (by kernel_rfl) (by kernel_rfl) (by kernel_rfl) (fun _ _ _ h => h) (by kernel_rfl) (Or.inl ⟨by rfl, ?_⟩) (by assumption) ?_
            · intro w' hSw
              (try dsimp only at hSw)
              go_simp
            (try simp only [Act.put, List.setIfInBounds_toArray, List.set_cons_zero, List.set_cons_succ])
            refine Late.take (i := 5) (oi := _) (v := (.pointer (some ⟨gb, 0, none⟩))) rfl (by kernel_rfl) (by kernel_rfl) (by kernel_rfl) (fun _ _ _ h => h) (by kernel_rfl) (Or.inl ⟨by rfl, ?_⟩) (by assumption) ?_
            · intro w' hSw
              (try dsimp only at hSw)
              go_simp
            (try simp only [Act.put, List.setIfInBounds_toArray, List.set_cons_zero, List.set_cons_succ])
            refine Late.take (i := 6) (oi := _) (v := (.pointer (some ⟨gb, 0, none⟩))) rfl (by kernel_rfl) (by kernel_rfl) (by kernel_rfl) (fun _ _ _ h => h) (by kernel_rfl) (Or.inl ⟨by rfl, ?_⟩) (by assumption) ?_
            · intro w' hSw
              (try dsimp only at hSw)
              go_simp
            (try simp only [Act.put, List.setIfInBounds_toArray, List.set_cons_zero, List.set_cons_succ])
            refine Late.take (i := 7) (oi := _) (v := (.pointer (some ⟨gb, 1, none⟩))) rfl (by kernel_rfl) (by kernel_rfl) (by kernel_rfl) (fun _ _ _ h => h) (by kernel_rfl) (Or.inl ⟨by rfl, ?_⟩) (by assumption) ?_
            · intro w' hSw
              (try dsimp only at hSw)
              go_simp
            (try simp only [Act.put, List.setIfInBounds_toArray, List.set_cons_zero, List.set_cons_succ])
            refine Late.take (i := 8) (oi := _) (v := (.int .i64 x.2.fast)) rfl (by kernel_rfl) (by kernel_rfl) (by kernel_rfl) (fun _ _ _ h => h) (by kernel_rfl) (Or.inl ⟨by rfl, ?_⟩) (by assumption) ?_
            · intro w' hSw
              (try dsimp only at hSw)
              go_simp
            (try simp only [Act.put, List.setIfInBounds_toArray, List.set_cons_zero, List.set_cons_succ])
            refine Late.take (i := 9) (oi := _) (v := (.int .i64 0)) rfl (by kernel_rfl) (by kernel_rfl) (by kernel_rfl) (fun _ _ _ h => h) (by kernel_rfl) (Or.inl ⟨by rfl, ?_⟩) (by assumption) ?_
            · intro w' hSw
              (try dsimp only at hSw)
              go_simp
            (try simp only [Act.put, List.setIfInBounds_toArray, List.set_cons_zero, List.set_cons_succ])
            refine Late.take (i := 10) (oi := _) (v := (.int .i64 (x.2.fast : Nat))) rfl (by kernel_rfl) (by kernel_rfl) (by kernel_rfl) (fun _ _ _ h => h) (by kernel_rfl) (Or.inl ⟨by rfl, ?_⟩) (by assumption) ?_
            · intro w' hSw
              (try dsimp only at hSw)
              go_simp
            (try simp only [Act.put, List.setIfInBounds_toArray, List.set_cons_zero, List.set_cons_succ])
            refine Late.take (i := 11) (oi := _) (v := (.slice (some ⟨g', 0, none⟩) (x.2.fast) c)) rfl (by kernel_rfl) (by kernel_rfl) (by kernel_rfl) (fun _ _ _ h => h) (by kernel_rfl) (Or.inl ⟨by rfl, ?_⟩) (by assumption) ?_
            · intro w' hSw
              (try dsimp only at hSw)
              go_simp
            (try simp only [Act.put, List.setIfInBounds_toArray, List.set_cons_zero, List.set_cons_succ])
            refine Late.step (i := 12) (o := _) (by kernel_rfl) rfl (fun K hK => ?_)
            go_simp
            refine (clone_any ⟨g', 0, none⟩ (x.2.fast) c ((x.2.b.take (x.2.fast)).map fun c => (c.toNat : Int)) _ (by simp; omega) (by omega) HCE.out).mono ?_
            rintro e w3 ⟨v', rfl, hrow3, hne3, hb3⟩
            have hb3' : Below wq.heap.size wq w3 := ((Below.refl wq.heap.size wq).drew).trans hb3
            have HR3 := Lib.hid hrow3
            obtain ⟨p', c', rfl⟩ := own_slice hrow3
            have HCW := Lib.hid (And.intro ((hb3'.cell (cell_lt HEE.out.1)).trans HEE.out.1) ((hb3'.cell (cell_lt HEE.out.2)).trans HEE.out.2))
            have HB33 := Lib.hid hb3'
            clear hrow3 hne3 hb3 hb3'
            refine hK.out _ _ ?_ (fun hHeld => ?_)
            · exact HCW.out
            clear hK K
            (try simp only [Act.put, List.setIfInBounds_toArray, List.set_cons_zero, List.set_cons_succ])
            refine Late.step (i := 13) (o := _) (by kernel_rfl) rfl (fun K hK => ?_)
            go_simp
            refine hK.out _ _ ?_ (fun hHeld => ?_)
            · exact HCW.out
            clear hK K
            (try simp only [Act.put, List.setIfInBounds_toArray, List.set_cons_zero, List.set_cons_succ])
            refine Late.step (i := 14) (o := _) (by kernel_rfl) rfl (fun K hK => ?_)
            go_simp
            refine hK.out _ _ ?_ (fun hHeld => ?_)
            · exact HCW.out
            clear hK K
            (try simp only [Act.put, List.setIfInBounds_toArray, List.set_cons_zero, List.set_cons_succ])
            have c4' := HCW.out.1
            have f4 : w3.frozen? ⟨gb, 0, none⟩ = false := frozen_of_block ((HB33.out.block gb (cell_lt HEE.out.1)).trans HBK.out)
            refine Late.last (L := 15) (o := _) (by kernel_rfl) rfl (by kernel_rfl) (fun K hK => ?_)
            go_simp
            refine hK.out _ _ ?_
            clear hK K
            (try simp only [Act.put, List.setIfInBounds_toArray, List.set_cons_zero, List.set_cons_succ])
            refine Late.done (by kernel_rfl) ?_ _
            clear c4' f4
            have hrow3 := HR3.out
            have em : ((x.2.b.take (x.2.fast)).map fun c => (c.toNat : Int)).map (Value.int .u8) = (x.2.b.take (x.2.fast)).map encU8 := by rw [List.map_map]; rfl
            have el : (x.2.b.take (x.2.fast)).length = x.2.fast := by rw [List.length_take]; omega
            rw [em] at hrow3
            obtain ⟨ρ4, hr4, hf4⟩ := HR.out.one H1.out HB33.out (.slice p' (x.2.fast) c') (x.2.b.take (x.2.fast)) (by rw [el]; exact hrow3)
            rw [HGB.out] at hr4 hf4
            generalize w3.setCell ⟨gb, 0, none⟩ (.slice p' (x.2.fast) c') = w4 at *
            have HR4 := Lib.hid hr4
            have HF4 := Lib.hid hf4
            have HEL := Lib.hid el
            have g4 := get_setF (g := ⟨x.2.b.take (x.2.fast), x.2.fast⟩) H1.out
            have e4 : w4.cell? ⟨gb, 0, none⟩ = some (.slice p' (x.2.fast) c') := by
              have := hr4.g0 (get_mem g4)
              rw [updV_same, HGB.out] at this
              exact this
            have e5 : w4.cell? ⟨gb, 1, none⟩ = some (.int .i64 x.2.fast) := by
              have := hr4.g1 (get_mem g4)
              rw [HGB.out] at this
              exact this
            have G4 := Lib.hid g4
            clear hrow3 em el hr4 hf4 g4
            have f7 : w4.frozen? ⟨gb, 1, none⟩ = false := frozen_of_block (by have := HR4.out.hf _ (get_mem G4.out); rw [HGB.out] at this; exact this)
            go_wp2_with fail
            go_roundw
            case rel =>
              obtain ⟨ρ6, hr6, hf6⟩ := HR4.out.fastSet G4.out (x.2.fast)
              rw [HGB.out] at hr6 hf6
              refine ⟨k + 1, by omega, by go_num, ?_, CrashR.intro hr6 (HF.out.trans (HF4.out.trans hf6)) ?_⟩
              · rw [H3.out, if_neg HL.out]
                go_num
              · rw [H2.out, if_neg HL.out]
                have hF : setF x.1 (crash1 picks torn kk x.2) (crashT picks torn k 0 s.F) = setF x.1 ⟨(x.2.b.take x.2.fast), x.2.fast⟩ (setF x.1 ⟨x.2.b.take x.2.fast, x.2.fast⟩ (crashT picks torn k 0 s.F)) := by
                  rw [setF_setF]
                  congr 1
                  unfold crash1 torn1
                  rw [HST.out, Nat.add_zero]
                  rw [if_neg (fun h => absurd h.1 (Nat.lt_irrefl 0))]
                rw [hF]
            case measure => simp [intOf]; omega
      · obtain rfl : k = N := by omega
        go_wp2_with fail
        go_ret
        obtain ⟨ρr, dvr, h1, h2⟩ := HRR.out
        rw [← HNN.out, crashT_all] at h1
        exact ⟨rfl, ρr, h1.rep, HFR.out.trans h2⟩
end Go.Proofs.YtjlchphbkmaacaaGreatDoor
