/- The reference's Truncate. -/
import Derived.Test.YtjlchphbkmaacaaGreatDoorHj
import Derived.StillTailTactics
set_option linter.unusedVariables false
set_option linter.unusedSimpArgs false
namespace Go.Proofs.YtjlchphbkmaacaaGreatDoor
open Go.RowKit Go.MapKept Go.ChangeMaps Go.Maps
attribute [local go_sem ↓] Go.wp_at_zero Go.wp_at_succ
open Dk

theorem slice8_pre (p : Option Addr) (n c k : Nat) (hk : k ≤ c) (w : World) : (Instr.slice 31 (.slice p n c) none (some (.int .i64 k)) none).run Tryz.prog w = .ok (.slice p k c) w := by
  have hsz : (sizeOf (Tryz.prog.elem 31)).run Tryz.prog w = .ok 1 w := by kernel_rfl
  rw [run_slice_h (P := Tryz.prog) w 31 p n c (by kernel_rfl) .i64 (k : Int) (by omega) (by omega), hsz]
  have e : (if c = 0 then p else p.map (·.add (0 * 1))) = p := by
    split
    · rfl
    · cases p with
      | none => rfl
      | some a => simp [Addr.add]
  show Result.ok (sliced p 0 (k : Int).toNat c 1) w = _
  unfold sliced
  rw [e]
  simp
theorem bytes_cut {w : World} {p : Option Addr} {m k : Nat} {bs : List UInt8} (h : BytesAt w p m bs) (hk : k ≤ m) : BytesAt w p k (bs.take k) :=
  ⟨by rw [List.length_take, h.len]; omega, fun e => by have := h.nil e; omega, fun a e j u hu => h.cells a e j u (by
    rw [List.map_take, List.getElem?_take] at hu
    split at hu
    · exact hu
    · cases hu)⟩
theorem own_cap {w : World} {B e k : Nat} {p : Option Addr} {m c n : Nat} {xs : List Value} (h : w.ownsRow B e k (.slice p m c) n xs) : m = n ∧ n ≤ c := by
  rcases h.2 with ⟨e1, e2⟩ | ⟨g, cap, cur, e1, _, _, hc, _⟩
  · simp only [Value.slice.injEq] at e1
    omega
  · simp only [Value.slice.injEq] at e1
    omega

section
variable {σ : Nat → Option Role} {w : World} {rd : Nat} {s : St} {vF : Value} {fv lv : Nm → Value}

theorem Dk.Only.thenFr {w' w'' : World} (h : Only σ w w') (k : Fr σ σ w' w'') : Only σ w w'' :=
  ⟨k.os.trans h.os, k.tape.trans h.tape, k.output.trans h.output, Nat.le_trans h.size k.size, fun b hl hs => ((k.block b (Nat.lt_of_lt_of_le hl h.size) hs).1).trans (h.block b hl hs)⟩
/-- One file's bytes are others, whatever is done beside it. -/
theorem Dk.RefX.setRow2 {s0 : St} {vF0 : Value} {fv0 lv0 : Nm → Value} (h0 : RefX σ w rd s0 vF0 fv0 lv0) {w3 w7 : World} (h : RefX σ w3 rd s vF fv lv) (ho : Only σ w w7) {g : Nat} (hg : vF.ownBlock = some g) (hk : ∀ b, (∃ r, σ b = some r) → b ≠ g → w7.heap[b]? = w3.heap[b]?) {n : Nm} {f' : Fi} {fv' lv' : Nm → Value}
    (row : w7.ownsRow 0 80 3 vF s.F.length (cellsF fv' lv' s.F)) (hoth : ∀ m, m ≠ n → fv' m = fv m ∧ lv' m = lv m)
    (hfn : w7.ownsRow 0 5 1 (fv' n) (fastB f').length ((fastB f').map encU8)) (hfm : ∀ b, (fv' n).ownBlock = some b → mine σ w b)
    (hln : w7.ownsRow 0 5 1 (lv' n) (looseB f').length ((looseB f').map encU8)) (hlm : ∀ b, (lv' n).ownBlock = some b → mine σ w b) :
    RefX (newσ σ w w7) w7 rd { s with F := setF n f' s.F } vF fv' lv' := by
  have hnn : (setF n f' s.F).map (·.1) = s.F.map (·.1) := setF_names n f' s.F
  refine h0.toX ho ?_ ?_ (fun b hb' => .inl (h.rr b hb')) (fun x hx => ?_) (fun x hx => ?_)
  · rw [hk rd h.hrd fun e => by exact h.row_ne (by rw [hg, e])]
    exact h.hd
  · show w7.ownsRow 0 80 3 vF (setF n f' s.F).length (cellsF fv' lv' (setF n f' s.F))
    rw [cellsF_names hnn]
    have hl := congrArg List.length hnn
    rw [List.length_map, List.length_map] at hl
    rw [hl]
    exact row
  · rcases mem_setF (show x ∈ setF n f' s.F from hx) with ⟨rfl, _⟩ | ⟨h1, h2⟩
    · exact ⟨hfn, hfm⟩
    · rw [(hoth _ h2).1]
      exact ⟨ownsRow_block (h.hf x h1) fun b hb' => hk b (h.rf x h1 b hb') fun e => (h.byte_ne (h.hf x h1) hb').2 (by rw [hg, e]), fun b hb' => .inl (h.rf x h1 b hb')⟩
  · rcases mem_setF (show x ∈ setF n f' s.F from hx) with ⟨rfl, _⟩ | ⟨h1, h2⟩
    · exact ⟨hln, hlm⟩
    · rw [(hoth _ h2).2]
      exact ⟨ownsRow_block (h.hl x h1) fun b hb' => hk b (h.rl x h1 b hb') fun e => (h.byte_ne (h.hl x h1) hb').2 (by rw [hg, e]), fun b hb' => .inl (h.rl x h1 b hb')⟩

/-- One file's three cells are stored. -/
theorem Dk.RefX.storeFile {s0 : St} {vF0 : Value} {fv0 lv0 : Nm → Value} (h0 : RefX σ w rd s0 vF0 fv0 lv0) {w4 w6 : World} {g len c : Nat} (h : RefX σ w4 rd s (.slice (some ⟨g, 0, none⟩) len c) fv lv) (hr : s.F.Pairwise fun x y => bytesBefore x.1 y.1 = true) {k : Nat} {n : Nm} {f f' : Fi} (hx : s.F[k]? = some (n, f))
    (hk6 : ∀ b, (∃ r, σ b = some r) → w6.heap[b]? = w4.heap[b]?) (ho6 : Only σ w w6) (hs6 : w4.heap.size ≤ w6.heap.size) {vf vl : Value}
    (hvf : w6.ownsRow 0 5 1 vf (fastB f').length ((fastB f').map encU8)) (hmf : ∀ b, vf.ownBlock = some b → mine σ w b) (hgf : ∀ b, vf.ownBlock = some b → b ≠ g)
    (hvl : w6.ownsRow 0 5 1 vl (looseB f').length ((looseB f').map encU8)) (hml : ∀ b, vl.ownBlock = some b → mine σ w b) (hgl : ∀ b, vl.ownBlock = some b → b ≠ g)
    {w7 : World} (hw7 : w7 = (((w6.setCell ⟨g, k * 3, none⟩ (.string ⟨n.toArray⟩)).setCell ⟨g, k * 3 + 1, none⟩ vf).setCell ⟨g, k * 3 + 2, none⟩ vl).drew) :
    RefX (newσ σ w w7) w7 rd { s with F := setF n f' s.F } (.slice (some ⟨g, 0, none⟩) len c) (updV fv n vf) (updV lv n vl) ∧ Only σ w w7 := by
  subst hw7
  have hgrole := h.rr g rfl
  have hrow6 : w6.ownsRow 0 80 3 (.slice (some ⟨g, 0, none⟩) len c) s.F.length (cellsF fv lv s.F) := ownsRow_block h.row fun b hb => by cases hb; exact hk6 g hgrole
  have hlen : s.F.length = len := (own_cap hrow6).1.symm
  rw [hlen] at hrow6
  obtain ⟨s1, t1⟩ := hrow6.stored (k * 3) (.string ⟨n.toArray⟩)
  rw [show (cellsF fv lv s.F).set (k * 3) (.string ⟨n.toArray⟩) = cellsF fv lv s.F from cellsF_set hr hx (j := 0) (by decide) (fun m hm => ⟨rfl, rfl⟩) rfl] at s1
  obtain ⟨s2, t2⟩ := s1.stored (k * 3 + 1) vf
  rw [cellsF_set hr hx (j := 1) (by decide) (u := vf) (fv' := updV fv n vf) (lv' := lv) (fun m hm => ⟨updV_other _ _ hm, rfl⟩) (by simp [triV, updV_same])] at s2
  obtain ⟨s3, t3⟩ := s2.stored (k * 3 + 2) vl
  rw [cellsF_set hr hx (j := 2) (by decide) (u := vl) (fv' := updV fv n vf) (lv' := updV lv n vl) (fun m hm => ⟨rfl, updV_other _ _ hm⟩) (by simp [triV, updV_same])] at s3
  have hgr := grown_trans (grown_trans t1 t2) t3
  have ho7 : Only σ w (((w6.setCell ⟨g, k * 3, none⟩ (.string ⟨n.toArray⟩)).setCell ⟨g, k * 3 + 1, none⟩ vf).setCell ⟨g, k * 3 + 2, none⟩ vl) := ho6.grown hgr fun b e => by cases e; exact .inl hgrole
  have ho8 := ho7.below (Below.refl _ _).drew
  refine ⟨?_, ho8⟩
  refine h0.setRow2 h ho8 rfl (fun b hb hne => ?_) (n := n) (f' := f') (by rw [hlen]; exact s3) (fun m hm => ⟨updV_other _ _ hm, updV_other _ _ hm⟩) (by rw [updV_same]; exact own_set (own_set (own_set hvf hgf _) hgf _) hgf _) (by rw [updV_same]; exact hmf)
    (by rw [updV_same]; exact own_set (own_set (own_set hvl hgl _) hgl _) hgl _) (by rw [updV_same]; exact hml)
  obtain ⟨r, e⟩ := hb
  have hlt := h.lt b r e
  exact (hgr.block b (Nat.lt_of_lt_of_le hlt hs6) (fun e => by cases e; exact hne rfl)).trans (hk6 b ⟨r, e⟩)

theorem first_snd' {a b : Int} {r : List Int} (h : first (a :: b :: r) = 0) : b = 0 := by
  unfold first at h
  split at h
  · unfold first at h
    split at h
    · assumption
    · contradiction
  · contradiction
theorem truncate_e {n : Nm} {k : Int} {s : St} {z : Int} (h : first [answers s, if k < 0 then 1 else 0, there n s, if (((get n s.F).getD ⟨[], 0⟩).b.length : Int) < k then 1 else 0] = z) (hz : z ≠ 0) : truncate n k s = (z, s) := by
  unfold truncate; rw [Dk.asked_err (by rw [h]; exact hz), h]

set_option maxRecDepth 100000 in
set_option maxHeartbeats 4000000 in
theorem rtruncate_any (h : RefX σ w rd s vF fv lv) (hg : Fine s) (n : ByteArray) (hn : n.size ≤ maxLen) (sz : Int) :
    Calls Tryz.prog 35 #[.pointer (some ⟨rd, 0, none⟩), .string n, .int .i64 sz] w (RefPost σ w rd (truncate n.data.toList sz s)) := by
  have d3 := h.d3
  have H := Lib.hid h
  have HG := Lib.hid hg
  clear h hg
  cases ho : s.off
  · rw [ho] at d3
    have HO := Lib.hid (show answers s = 0 from by unfold answers; rw [ho]; rfl)
    clear ho
    by_cases hneg : sz < 0
    · have k0 : decide (sz < 0) = true := by rw [decide_eq_true_iff]; exact hneg
      have HN := Lib.hid hneg
      clear hneg
      go_enter Tryz.func35, Tryz.ntmps35
      go_wp2_with fail
      go_ret
      exact RefPost.err (truncate_e (by rw [HO.out, if_pos HN.out]; rfl) (by decide)) H.out (Below.refl _ _)
    · have k0 : decide (sz < 0) = false := by rw [decide_eq_false_iff_not]; exact hneg
      obtain ⟨kn, rfl⟩ : ∃ kn : Nat, sz = (kn : Int) := ⟨sz.toNat, by omega⟩
      have HN := Lib.hid hneg
      clear hneg
      go_enter Tryz.func35, Tryz.ntmps35
      go_wp2_with fail
      refine (rfind_any H.out HG.out n hn).mono ?_
      rintro e w1 ⟨rfl, hb⟩
      have HB := Lib.hid hb
      have HX1 := Lib.hid (H.out.below hb)
      clear hb d3 k0
      by_cases h0 : readE n.data.toList s = 0
      · have H0 := Lib.hid h0
        obtain ⟨f, hf⟩ := readE_get h0
        have HGET := Lib.hid hf
        have hat := at_get HG.out.rise hf
        have HATT := Lib.hid hat
        have hfirst : first [answers s, if (kn : Int) < 0 then 1 else 0, there n.data.toList s, if (((get n.data.toList s.F).getD ⟨[], 0⟩).b.length : Int) < (kn : Int) then 1 else 0] = if (f.b.length : Int) < (kn : Int) then 1 else 0 := by
          have h1 : there n.data.toList s = 0 := first_snd' h0
          rw [HO.out, if_neg (by omega), h1, hf]
          show first [0, 0, 0, if (f.b.length : Int) < (kn : Int) then 1 else 0] = _
          split <;> rfl
        have HFI := Lib.hid hfirst
        rw [if_pos h0, h0]
        clear h0 hf hfirst
        obtain ⟨g, c, hv, ht0, ht1, ht2, _, _, _⟩ := HX1.out.tri hat
        subst hv
        rw [ba_mk] at ht0
        have d0 := HX1.out.d0
        have hmem : (n.data.toList, f) ∈ s.F := List.mem_of_getElem? hat
        have hfo := HX1.out.hf _ hmem
        have hlo := HX1.out.hl _ hmem
        have hsz := HG.out.size_le HGET.out
        have hfx := HG.out.fast _ hmem
        simp only at hfo hlo ht1 ht2 hfx
        obtain ⟨pf, cf, ef⟩ := own_slice hfo
        obtain ⟨pl, cl, el⟩ := own_slice hlo
        have hk : atI n.data.toList s.F < s.F.length := (List.getElem?_eq_some_iff.1 hat).1
        have hl5 : s.F.length ≤ 512 := HG.out.files
        rw [ef] at ht1 hfo
        rw [el] at ht2 hlo
        have hfl := fastB_len hfx
        have hll := looseB_len f
        have HE := Lib.hid (And.intro ef el)
        have HFX := Lib.hid (And.intro hfx hmem)
        have hsum : (fastB f).length + (looseB f).length = f.b.length := by omega
        have HFL := Lib.hid (And.intro hfl hll)
        generalize hki : atI n.data.toList s.F = k at *
        have HKI := Lib.hid hki
        generalize hL : s.F.length = len at *
        generalize hA : (fastB f).length = fa at *
        generalize hB2 : (looseB f).length = lb at *
        generalize hFB : f.b.length = fb at *
        have HAB := Lib.hid (And.intro hA (And.intro hB2 (And.intro hL hFB)))
        have hw : IntKind.i64.wrap ((fa : Int) + (lb : Int)) = (fb : Int) := by rw [show (fa : Int) + (lb : Int) = (fb : Int) by omega]; exact IntWalk.i64_in _ (by omega)
        have hadd : (fa : Int) + (lb : Int) = (fb : Int) := by omega
        clear hfo hlo hat hmem ef el hfl hll hki hL hA hB2 hfx
        have hat1 : (w1.alloc (.cells #[.string n, .slice pf fa cf, .slice pl lb cl] 80)).heap[w1.heap.size]? = some (.cells #[.string n, .slice pf fa cf, .slice pl lb cl] 80 (0, 0)) := allocs_at [.cells #[.string n, .slice pf fa cf, .slice pl lb cl] 80] w1 0 _ rfl
        have hb1 := bel_alloc (Below.refl w1.heap.size w1) (.cells #[.string n, .slice pf fa cf, .slice pl lb cl] 80)
        have HAT1 := Lib.hid hat1
        have HB1 := Lib.hid hb1
        clear hat1 hb1
        by_cases hbig : fb < kn
        · have HBIG := Lib.hid hbig
          go_wp2_with fail
          go_ret
          exact RefPost.err (truncate_e (by rw [HFI.out, if_pos (by have := HBIG.out; omega)]) (by decide)) H.out (HB.out.trans (HB1.out.mono HB.out.size))
        · have HBIG := Lib.hid hbig
          have H00 := Lib.hid (show first [answers s, if (kn : Int) < 0 then 1 else 0, there n.data.toList s, if (((get n.data.toList s.F).getD ⟨[], 0⟩).b.length : Int) < (kn : Int) then 1 else 0] = 0 from by rw [HFI.out, if_neg (by omega)])
          have kbig : decide (fb < kn) = false := by rw [decide_eq_false_iff_not]; exact hbig
          clear hbig
          go_wp2_with fail
          clear kbig hadd hw d0 ht0 ht1 ht2
          have hxb := HX1.out.below HB1.out
          refine (rburns_any hxb HG.out).mono ?_
          have hσb : σ w1.heap.size = none := HX1.out.fresh (Nat.le_refl _)
          have hne : w1.heap.size ≠ rd := by have := HX1.out.rdlt; omega
          have HSB := Lib.hid (And.intro hσb hne)
          clear hxb hσb hne
          rintro e w3 (⟨h0, rfl, hx, hf⟩ | ⟨h0, rfl, hx, hf⟩)
          · have HX3 := Lib.hid hx
            have HF3 := Lib.hid ((Fr.of_below (HB.out.trans (HB1.out.mono HB.out.size))).trans hf)
            have HQ := Lib.hid (show truncate n.data.toList (kn : Int) s = (8, burnt s) from by unfold truncate; exact Dk.asked_off H00.out h0)
            clear hx hf h0
            go_wp2_with fail
            go_ret
            unfold RefPost
            rw [HQ.out]
            exact ⟨rfl, σ, ⟨_, _, _, HX3.out⟩, HF3.out⟩
          have HX3 := Lib.hid hx
          have ho3 : Only σ w w3 := (Only.of_below (HB.out.trans (HB1.out.mono HB.out.size))).thenFr hf
          have hbox3 := (hf.block w1.heap.size (by rw [World.size_alloc]; omega) HSB.out.1).1.trans HAT1.out
          have hq : truncate n.data.toList (kn : Int) s = (0, { Dk.less s with F := setF n.data.toList ⟨f.b.take kn, min f.fast kn⟩ s.F }) := by
            unfold truncate
            rw [Dk.asked_ok H00.out h0]
            have : get n.data.toList (Dk.less s).F = some f := HGET.out
            rw [this]
            rfl
          have HQ := Lib.hid hq
          have HO3 := Lib.hid ho3
          have hfo := HX3.out.hf _ HFX.out.2
          have hlo := HX3.out.hl _ HFX.out.2
          simp only at hfo hlo
          rw [HE.out.1, HAB.out.1] at hfo
          rw [HE.out.2, HAB.out.2.1] at hlo
          have h1 := own_bytes (by rw [HAB.out.1]; exact hfo)
          have h2 := own_bytes (by rw [HAB.out.2.1]; exact hlo)
          obtain ⟨_, hcf⟩ := own_cap hfo
          obtain ⟨_, hcl⟩ := own_cap hlo
          have hn1 := own_none hfo
          have hn2 := own_none hlo
          have hk3 : k < (Dk.less s).F.length := by show k < s.F.length; rw [HAB.out.2.2.1]; exact hk
          obtain ⟨g', c', hv, _, ht1, ht2, hz, hgr, _⟩ := HX3.out.tri (k := k) (x := (n.data.toList, f)) (by rw [← HKI.out]; exact at_get HG.out.rise HGET.out)
          simp only [Value.slice.injEq, Option.some.injEq, Addr.mk.injEq, and_true] at hv
          obtain ⟨rfl, hv1, rfl⟩ := hv
          clear hv1
          have d0 := HX3.out.d0
          have b0 : w3.cell? ⟨w1.heap.size, 0, none⟩ = some (.string n) := cell_of_block (i := 0) hbox3
          have b1 : w3.cell? ⟨w1.heap.size, 1, none⟩ = some (.slice pf fa cf) := cell_of_block (i := 1) hbox3
          have b2 : w3.cell? ⟨w1.heap.size, 2, none⟩ = some (.slice pl lb cl) := cell_of_block (i := 2) hbox3
          have HZ := Lib.hid hz
          have HBOX := Lib.hid hbox3
          have HGR := Lib.hid hgr
          have HT := Lib.hid (And.intro ht1 ht2)
          have HK3 := Lib.hid hk3
          clear hx hf h0 ho3 hbox3 hq hz hgr ht1 ht2 hk3
          have hgb : w1.heap.size ≠ g := fun e => by
            obtain ⟨r, e2⟩ := HGR.out
            rw [← e, HSB.out.1] at e2
            cases e2
          have hgd : g ≠ rd := fun e => HX3.out.row_ne (by rw [e]; rfl)
          have HNE := Lib.hid (And.intro hgb hgd)
          clear hgb hgd
          by_cases hle : kn ≤ fa
          · have kle : decide (kn ≤ fa) = true := by rw [decide_eq_true_iff]; exact hle
            have hs1 := slice8_pre pf fa cf kn (by omega)
            have HOWN := Lib.hid (own_any w3 pf kn cf ((fastB f).take kn) (bytes_cut h1 hle) hn1 (by omega))
            have HLE := Lib.hid hle
            clear hle h1 h2 hn1 hn2
            go_wp2_with fail
            refine HOWN.out.mono ?_
            rintro e w4 ⟨q, d, rfl, hown4, hb4⟩
            have hbox4 := (hb4.block w1.heap.size (Array.getElem?_eq_some_iff.1 HBOX.out).1).trans HBOX.out
            have x0 : w4.cell? ⟨w1.heap.size, 0, none⟩ = some (.string n) := cell_of_block (i := 0) hbox4
            have x1 : w4.cell? ⟨w1.heap.size, 1, none⟩ = some (.slice pf fa cf) := cell_of_block (i := 1) hbox4
            have x2 : w4.cell? ⟨w1.heap.size, 2, none⟩ = some (.slice pl lb cl) := cell_of_block (i := 2) hbox4
            have xz : ∀ i, w4.frozen? ⟨w1.heap.size, i, none⟩ = false := fun i => frozen_of_block hbox4
            have HBOX4 := Lib.hid hbox4
            have HOWN4 := Lib.hid hown4
            have HB4 := Lib.hid hb4
            have hd4 := (HX3.out.below hb4).d0
            clear hbox4 hown4 hb4 hs1 b0 b1 b2 d0 kle
            have hlt3 := (HX3.out.row.lt g rfl).2
            have hne4 : ∀ b, Value.ownBlock (.slice q kn d) = some b → b ≠ w1.heap.size ∧ b ≠ g := fun b hb' => by
              have h1 := (HOWN4.out.lt b hb').1
              have h2 := (Array.getElem?_eq_some_iff.1 HBOX.out).1
              omega
            have HNE4 := Lib.hid hne4
            clear hlt3 hne4
            go_upto_region 18 with fail
            obtain ⟨w6, hw6⟩ : ∃ w6, w6 = (w4.setCell ⟨w1.heap.size, 1, none⟩ (.slice q kn d)).setCell ⟨w1.heap.size, 2, none⟩ (.slice none 0 0) := ⟨_, rfl⟩
            have hk6 : ∀ b, b ≠ w1.heap.size → w6.heap[b]? = w4.heap[b]? := fun b hb' => by rw [hw6]; rw [heap_setCell_other _ _ _ _ hb', heap_setCell_other _ _ _ _ hb']
            have c0 : w6.cell? ⟨w1.heap.size, 0, none⟩ = some (.string n) := by rw [hw6]; rw [World.cell?_setCell_other _ _ _ _ (by intro e; simp at e), World.cell?_setCell_other _ _ _ _ (by intro e; simp at e)]; exact x0
            have c1 : w6.cell? ⟨w1.heap.size, 1, none⟩ = some (.slice q kn d) := by rw [hw6]; rw [World.cell?_setCell_other _ _ _ _ (by intro e; simp at e)]; exact World.cell?_setCell_same' _ _ _ (by rw [x1]; rfl)
            have c2 : w6.cell? ⟨w1.heap.size, 2, none⟩ = some (.slice none 0 0) := by rw [hw6]; exact World.cell?_setCell_same' _ _ _ (by rw [World.cell?_setCell_other _ _ _ _ (by intro e; simp at e), x2]; rfl)
            have hsz6 : w6.heap.size = w4.heap.size := by rw [hw6]; simp only [World.size_setCell]
            have ho6 : Only σ w w6 := by rw [hw6]; exact (((HO3.out.below HB4.out).setCell (.inr (by have := HB.out.size; exact this)) _).setCell (.inr (by have := HB.out.size; exact this)) _)
            rw [← hw6]
            clear hw6 x0 x1 x2 xz hd4
            have hX4 := HX3.out.below HB4.out
            have dd : w6.cell? ⟨rd, 0, none⟩ = some (.slice (some ⟨g, 0, none⟩) len c) := by
              rw [World.cell?_of_block (w := w4) (a := ⟨rd, 0, none⟩) (hk6 rd fun e => HSB.out.2 e.symm)]
              exact hX4.d0
            obtain ⟨g', c', hv, t0, t1, t2, tz, _, _⟩ := hX4.tri (k := k) (x := (n.data.toList, f)) (by rw [← HKI.out]; exact at_get HG.out.rise HGET.out)
            simp only [Value.slice.injEq, Option.some.injEq, Addr.mk.injEq, and_true] at hv
            obtain ⟨rfl, hv1, rfl⟩ := hv
            clear hv1
            have hg6 := hk6 g fun e => HNE.out.1 e.symm
            have t0' := (World.cell?_of_block (w := w4) (w' := w6) (a := ⟨g, k * 3, none⟩) hg6).trans t0
            have t1' := (World.cell?_of_block (w := w4) (w' := w6) (a := ⟨g, k * 3 + 1, none⟩) hg6).trans t1
            have t2' := (World.cell?_of_block (w := w4) (w' := w6) (a := ⟨g, k * 3 + 2, none⟩) hg6).trans t2
            have z0' := (World.frozen?_of_block (w := w4) (w' := w6) (a := ⟨g, k * 3, none⟩) hg6).trans (tz _)
            have z1' := (World.frozen?_of_block (w := w4) (w' := w6) (a := ⟨g, k * 3 + 1, none⟩) hg6).trans (tz _)
            have z2' := (World.frozen?_of_block (w := w4) (w' := w6) (a := ⟨g, k * 3 + 2, none⟩) hg6).trans (tz _)
            have HK6 := Lib.hid hk6
            have HO6 := Lib.hid ho6
            have hj0 : (0 : Int) ≤ (k : Int) := by omega
            have hjk : (k : Int) < (len : Int) := by omega
            clear t0 t1 t2 tz hg6 hk6 ho6
            go_still_tail 7, (by kernel_rfl)
            go_wp2_with fail
            clear c0 c1 c2 dd t0' t1' t2' z0' z1' z2'
            go_ret
            unfold RefPost
            rw [HQ.out]
            have hat4 : (Dk.less s).F[k]? = some (n.data.toList, f) := by rw [← HKI.out]; exact at_get HG.out.rise HGET.out
            have hk6' : ∀ b, (∃ r, σ b = some r) → w6.heap[b]? = w4.heap[b]? := fun b ⟨r, e⟩ => HK6.out b fun e2 => by rw [e2, HSB.out.1] at e; cases e
            obtain ⟨hx7, ho7⟩ := H.out.storeFile hX4 HG.out.rise hat4 (f' := ⟨f.b.take kn, min f.fast kn⟩) (w6 := w6) hk6' HO6.out (by rw [hsz6]; exact Nat.le_refl _) (vf := .slice q kn d) (vl := .slice none 0 0) (by
                have e : fastB ⟨f.b.take kn, min f.fast kn⟩ = (fastB f).take kn := by
                  show (f.b.take kn).take (min f.fast kn) = (f.b.take f.fast).take kn
                  rw [List.take_take, List.take_take]
                  congr 1
                  omega
                rw [e]
                exact ownsRow_block (own_base HOWN4.out fun b _ => Nat.zero_le _) fun b hb' => HK6.out b (HNE4.out b hb').1) (fun b hb' => .inr (Nat.le_trans (HO3.out.size) (HOWN4.out.lt b hb').1)) (fun b hb' => (HNE4.out b hb').2)
              (by
                have e : looseB ⟨f.b.take kn, min f.fast kn⟩ = [] := by
                  show (f.b.take kn).drop (min f.fast kn) = []
                  have h1 := HFL.out.1
                  have h2 := HLE.out
                  exact List.drop_of_length_le (by rw [List.length_take]; omega)
                rw [e]
                exact World.ownsRow_nil _ _ _ _) (fun b hb' => by cases hb') (fun b hb' => by cases hb') rfl
            rw [ba_mk] at hx7 ho7
            exact ⟨rfl, _, ⟨_, _, _, hx7⟩, ho7.fr⟩
          · have hkb : kn ≤ fb := by have := HBIG.out; omega
            have kle : decide (kn ≤ fa) = false := by rw [decide_eq_false_iff_not]; exact hle
            have hs1 := slice8_pre pl lb cl (kn - fa) (by omega)
            have hsub : IntKind.i64.wrap ((kn : Int) - (fa : Int)) = ((kn - fa : Nat) : Int) := by rw [show (kn : Int) - (fa : Int) = ((kn - fa : Nat) : Int) by omega]; exact IntWalk.i64_in _ (by omega)
            have hsub2 : (kn : Int) - (fa : Int) = ((kn - fa : Nat) : Int) := by omega
            have HOWN := Lib.hid (own_any w3 pl (kn - fa) cl ((looseB f).take (kn - fa)) (bytes_cut h2 (by omega)) hn2 (by omega))
            have HLE := Lib.hid hle
            clear hle h1 h2 hn1 hn2
            go_wp2_with fail
            refine HOWN.out.mono ?_
            rintro e w4 ⟨q, d, rfl, hown4, hb4⟩
            have hbox4 := (hb4.block w1.heap.size (Array.getElem?_eq_some_iff.1 HBOX.out).1).trans HBOX.out
            have x0 : w4.cell? ⟨w1.heap.size, 0, none⟩ = some (.string n) := cell_of_block (i := 0) hbox4
            have x1 : w4.cell? ⟨w1.heap.size, 1, none⟩ = some (.slice pf fa cf) := cell_of_block (i := 1) hbox4
            have x2 : w4.cell? ⟨w1.heap.size, 2, none⟩ = some (.slice pl lb cl) := cell_of_block (i := 2) hbox4
            have xz : ∀ i, w4.frozen? ⟨w1.heap.size, i, none⟩ = false := fun i => frozen_of_block hbox4
            have HBOX4 := Lib.hid hbox4
            have HOWN4 := Lib.hid hown4
            have HB4 := Lib.hid hb4
            have hd4 := (HX3.out.below hb4).d0
            clear hbox4 hown4 hb4 hs1 b0 b1 b2 d0 kle hsub hsub2
            have hlt3 := (HX3.out.row.lt g rfl).2
            have hne4 : ∀ b, Value.ownBlock (.slice q (kn - fa) d) = some b → b ≠ w1.heap.size ∧ b ≠ g := fun b hb' => by
              have h1 := (HOWN4.out.lt b hb').1
              have h2 := (Array.getElem?_eq_some_iff.1 HBOX.out).1
              omega
            have HNE4 := Lib.hid hne4
            clear hlt3 hne4
            go_upto_region 18 with fail
            obtain ⟨w6, hw6⟩ : ∃ w6, w6 = w4.setCell ⟨w1.heap.size, 2, none⟩ (.slice q (kn - fa) d) := ⟨_, rfl⟩
            have hk6 : ∀ b, b ≠ w1.heap.size → w6.heap[b]? = w4.heap[b]? := fun b hb' => by rw [hw6]; rw [heap_setCell_other _ _ _ _ hb']
            have c0 : w6.cell? ⟨w1.heap.size, 0, none⟩ = some (.string n) := by rw [hw6]; rw [World.cell?_setCell_other _ _ _ _ (by intro e; simp at e)]; exact x0
            have c1 : w6.cell? ⟨w1.heap.size, 1, none⟩ = some (.slice pf fa cf) := by rw [hw6]; rw [World.cell?_setCell_other _ _ _ _ (by intro e; simp at e)]; exact x1
            have c2 : w6.cell? ⟨w1.heap.size, 2, none⟩ = some (.slice q (kn - fa) d) := by rw [hw6]; exact World.cell?_setCell_same' _ _ _ (by rw [x2]; rfl)
            have hsz6 : w6.heap.size = w4.heap.size := by rw [hw6]; simp only [World.size_setCell]
            have ho6 : Only σ w w6 := by rw [hw6]; exact ((HO3.out.below HB4.out).setCell (.inr (by have := HB.out.size; exact this)) _)
            rw [← hw6]
            clear hw6 x0 x1 x2 xz hd4
            have hX4 := HX3.out.below HB4.out
            have dd : w6.cell? ⟨rd, 0, none⟩ = some (.slice (some ⟨g, 0, none⟩) len c) := by
              rw [World.cell?_of_block (w := w4) (a := ⟨rd, 0, none⟩) (hk6 rd fun e => HSB.out.2 e.symm)]
              exact hX4.d0
            obtain ⟨g', c', hv, t0, t1, t2, tz, _, _⟩ := hX4.tri (k := k) (x := (n.data.toList, f)) (by rw [← HKI.out]; exact at_get HG.out.rise HGET.out)
            simp only [Value.slice.injEq, Option.some.injEq, Addr.mk.injEq, and_true] at hv
            obtain ⟨rfl, hv1, rfl⟩ := hv
            clear hv1
            have hg6 := hk6 g fun e => HNE.out.1 e.symm
            have t0' := (World.cell?_of_block (w := w4) (w' := w6) (a := ⟨g, k * 3, none⟩) hg6).trans t0
            have t1' := (World.cell?_of_block (w := w4) (w' := w6) (a := ⟨g, k * 3 + 1, none⟩) hg6).trans t1
            have t2' := (World.cell?_of_block (w := w4) (w' := w6) (a := ⟨g, k * 3 + 2, none⟩) hg6).trans t2
            have z0' := (World.frozen?_of_block (w := w4) (w' := w6) (a := ⟨g, k * 3, none⟩) hg6).trans (tz _)
            have z1' := (World.frozen?_of_block (w := w4) (w' := w6) (a := ⟨g, k * 3 + 1, none⟩) hg6).trans (tz _)
            have z2' := (World.frozen?_of_block (w := w4) (w' := w6) (a := ⟨g, k * 3 + 2, none⟩) hg6).trans (tz _)
            have HK6 := Lib.hid hk6
            have HO6 := Lib.hid ho6
            have hj0 : (0 : Int) ≤ (k : Int) := by omega
            have hjk : (k : Int) < (len : Int) := by omega
            clear t0 t1 t2 tz hg6 hk6 ho6
            go_still_tail 7, (by kernel_rfl)
            go_wp2_with fail
            clear c0 c1 c2 dd t0' t1' t2' z0' z1' z2'
            go_ret
            unfold RefPost
            rw [HQ.out]
            have hat4 : (Dk.less s).F[k]? = some (n.data.toList, f) := by rw [← HKI.out]; exact at_get HG.out.rise HGET.out
            have hk6' : ∀ b, (∃ r, σ b = some r) → w6.heap[b]? = w4.heap[b]? := fun b ⟨r, e⟩ => HK6.out b fun e2 => by rw [e2, HSB.out.1] at e; cases e
            obtain ⟨hx7, ho7⟩ := H.out.storeFile hX4 HG.out.rise hat4 (f' := ⟨f.b.take kn, min f.fast kn⟩) (w6 := w6) hk6' HO6.out (by rw [hsz6]; exact Nat.le_refl _) (vf := .slice pf fa cf) (vl := .slice q (kn - fa) d) (by
                have e : fastB ⟨f.b.take kn, min f.fast kn⟩ = fastB f := by
                  show (f.b.take kn).take (min f.fast kn) = f.b.take f.fast
                  rw [List.take_take]
                  congr 1
                  have h1 := HFL.out.1
                  have h2 := HLE.out
                  omega
                rw [e]
                have hh := hX4.hf _ HFX.out.2
                simp only at hh
                rw [HE.out.1] at hh
                exact ownsRow_block hh fun b hb' => hk6' b (hX4.rf _ HFX.out.2 b (by simp only; rw [HE.out.1]; exact hb'))) (fun b hb' => .inl (hX4.rf _ HFX.out.2 b (by simp only; rw [HE.out.1]; exact hb')))
              (fun b hb' e => by
                have hh := hX4.hf _ HFX.out.2
                exact (hX4.byte_ne hh (g := b) (by simp only; rw [HE.out.1]; exact hb')).2 (by rw [e]; rfl))
              (by
                have e : looseB ⟨f.b.take kn, min f.fast kn⟩ = (looseB f).take (kn - fa) := by
                  show (f.b.take kn).drop (min f.fast kn) = (f.b.drop f.fast).take (kn - fa)
                  have h1 := HFL.out.1
                  have h2 := HLE.out
                  rw [show min f.fast kn = fa by omega, show f.fast = fa by omega, List.drop_take]
                rw [e]
                exact ownsRow_block (own_base HOWN4.out fun b _ => Nat.zero_le _) fun b hb' => HK6.out b (HNE4.out b hb').1) (fun b hb' => .inr (Nat.le_trans (HO3.out.size) (HOWN4.out.lt b hb').1)) (fun b hb' => (HNE4.out b hb').2) rfl
            rw [ba_mk] at hx7 ho7
            exact ⟨rfl, _, ⟨_, _, _, hx7⟩, ho7.fr⟩
      · have k0 : (readE n.data.toList s != 0) = true := by simpa using h0
        have HQ := Lib.hid (show truncate n.data.toList (kn : Int) s = (readE n.data.toList s, s) from truncate_e (by
          rw [readE_first] at h0 ⊢
          rw [HO.out] at h0 ⊢
          rw [if_neg (by omega)]
          have h2 : there n.data.toList s ≠ 0 := fun e => h0 (by rw [e]; rfl)
          show (if (0 : Int) = 0 then first [0, there n.data.toList s, _] else 0) = _
          rw [if_pos rfl]
          show (if (0 : Int) = 0 then first [there n.data.toList s, _] else 0) = (if (0 : Int) = 0 then first [there n.data.toList s] else 0)
          rw [if_pos rfl, if_pos rfl]
          show (if there n.data.toList s = 0 then _ else there n.data.toList s) = (if there n.data.toList s = 0 then _ else there n.data.toList s)
          rw [if_neg h2, if_neg h2]) h0)
        rw [if_neg h0]
        clear h0
        generalize readE n.data.toList s = E at *
        go_wp2_with fail
        go_ret
        exact RefPost.err HQ.out H.out HB.out
  · rw [ho] at d3
    have HO := Lib.hid (show answers s = 8 from by unfold answers; rw [ho]; rfl)
    clear ho
    go_enter Tryz.func35, Tryz.ntmps35
    go_wp2_with fail
    go_ret
    exact RefPost.err (truncate_e (by rw [HO.out]; rfl) (by decide)) H.out (Below.refl _ _)
end
end Go.Proofs.YtjlchphbkmaacaaGreatDoor
