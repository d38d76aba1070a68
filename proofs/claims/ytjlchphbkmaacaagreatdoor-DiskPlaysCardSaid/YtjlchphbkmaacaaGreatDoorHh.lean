/- The reference's Rename, Read. -/
import Derived.Test.YtjlchphbkmaacaaGreatDoorHg
set_option linter.unusedVariables false
set_option linter.unusedSimpArgs false
namespace Go.Proofs.YtjlchphbkmaacaaGreatDoor
open Go.RowKit Go.MapKept Go.ChangeMaps Go.Maps
attribute [local go_sem ↓] Go.wp_at_zero Go.wp_at_succ
open Dk

section
variable {σ : Nat → Option Role} {w : World} {rd : Nat} {s : St} {vF : Value} {fv lv : Nm → Value}

theorem rename_e {o n : Nm} {s : St} {z : Int} (h : first [answers s, if may n then 0 else 1, there o s] = z) (hz : z ≠ 0) : rename o n s = (z, s) := by
  unfold rename; rw [Dk.asked_err (by rw [h]; exact hz), h]

set_option maxRecDepth 100000 in
set_option maxHeartbeats 2000000 in
theorem rrename_any (h : RefX σ w rd s vF fv lv) (hg : Fine s) (o n : ByteArray) (hno : o.size ≤ maxLen) (hn : n.size ≤ maxLen) :
    Calls Tryz.prog 34 #[.pointer (some ⟨rd, 0, none⟩), .string o, .string n] w (RefPost σ w rd (rename o.data.toList n.data.toList s)) := by
  have d3 := h.d3
  have H := Lib.hid h
  have HG := Lib.hid hg
  clear h hg
  cases ho : s.off
  · rw [ho] at d3
    have HOFF := Lib.hid ho
    have HO := Lib.hid (show answers s = 0 from by unfold answers; rw [ho]; rfl)
    clear ho
    cases hmo : Dk.may o.data.toList
    · have HM := Lib.hid hmo
      clear hmo
      go_enter Tryz.func34, Tryz.ntmps34
      go_wp2_with fail
      refine (rmay_any o _ hno).mono ?_
      rintro e w1 ⟨rfl, rfl⟩
      rw [HM.out]
      go_wp2_with fail
      go_ret
      refine RefPost.err (rename_e ?_ (by decide)) H.out (Below.refl _ _)
      unfold there
      rw [HO.out, HM.out]
      cases Dk.may n.data.toList <;> rfl
    · have HM := Lib.hid hmo
      clear hmo
      cases hmn : Dk.may n.data.toList
      · have HMN := Lib.hid hmn
        clear hmn
        go_enter Tryz.func34, Tryz.ntmps34
        go_wp2_with fail
        refine (rmay_any o _ hno).mono ?_
        rintro e w1 ⟨rfl, rfl⟩
        rw [HM.out]
        go_wp2_with fail
        refine (rmay_any n _ hn).mono ?_
        rintro e w1 ⟨rfl, rfl⟩
        rw [HMN.out]
        go_wp2_with fail
        go_ret
        exact RefPost.err (rename_e (by rw [HO.out, HMN.out]; rfl) (by decide)) H.out (Below.refl _ _)
      · have HMN := Lib.hid hmn
        clear hmn
        have hrf : first [answers s, if Dk.may n.data.toList then 0 else 1, there o.data.toList s] = readE o.data.toList s := by rw [readE_first, HO.out, HMN.out]; rfl
        have HRF := Lib.hid hrf
        clear hrf
        go_enter Tryz.func34, Tryz.ntmps34
        go_wp2_with fail
        refine (rmay_any o _ hno).mono ?_
        rintro e w1 ⟨rfl, rfl⟩
        rw [HM.out]
        go_wp2_with fail
        refine (rmay_any n _ hn).mono ?_
        rintro e w1 ⟨rfl, rfl⟩
        rw [HMN.out]
        go_wp2_with fail
        refine (rfind_any H.out HG.out o hno).mono ?_
        rintro e w2 ⟨rfl, hb⟩
        have HB := Lib.hid hb
        have HX2 := Lib.hid (H.out.below hb)
        clear hb d3
        by_cases h0 : readE o.data.toList s = 0
        · have H0 := Lib.hid (HRF.out.trans h0)
          obtain ⟨f, hf⟩ := readE_get h0
          have HGET := Lib.hid hf
          have hat := at_get HG.out.rise hf
          have HATT := Lib.hid hat
          rw [if_pos h0, h0]
          clear h0 hf hat
          generalize hki : atI o.data.toList s.F = k at *
          have HKI := Lib.hid hki
          clear hki
          go_wp2_with fail
          refine (rburns_any HX2.out HG.out).mono ?_
          rintro e w3 (⟨h0, rfl, hx, hf⟩ | ⟨h0, rfl, hx, hf⟩)
          · have HX3 := Lib.hid hx
            have HF3 := Lib.hid ((Fr.of_below HB.out).trans hf)
            have HQ := Lib.hid (show rename o.data.toList n.data.toList s = (8, burnt s) from by unfold rename; exact Dk.asked_off H0.out h0)
            clear hx hf h0
            go_wp2_with fail
            go_ret
            unfold RefPost
            rw [HQ.out]
            exact ⟨rfl, σ, ⟨_, _, _, HX3.out⟩, HF3.out⟩
          · have HX3 := Lib.hid hx
            have HF3 := Lib.hid ((Fr.of_below HB.out).trans hf)
            have hq : rename o.data.toList n.data.toList s = (0, if o.data.toList = n.data.toList then Dk.less s else { Dk.less s with F := del o.data.toList (put n.data.toList f s.F) }) := by
              unfold rename
              rw [Dk.asked_ok H0.out h0]
              have : get o.data.toList (Dk.less s).F = some f := HGET.out
              rw [this]
              rfl
            have HQ := Lib.hid hq
            clear hx hf h0 hq
            by_cases hon : o.data.toList = n.data.toList
            · have e1 : o = n := by rw [← ba_mk o, hon, ba_mk]
              subst e1
              go_wp2_with fail
              go_ret
              unfold RefPost
              rw [HQ.out, if_pos trivial]
              exact ⟨rfl, σ, ⟨_, _, _, HX3.out⟩, HF3.out⟩
            · have HON := Lib.hid hon
              have j1 : (o.toList == n.toList) = false := by rw [ByteArray.toList_eq, ByteArray.toList_eq]; exact beq_eq_false_iff_ne.2 hon
              clear hon
              obtain ⟨g, c, hv, ht0, ht1, ht2, _, _, _⟩ := HX3.out.tri (s := Dk.less s) HATT.out
              subst hv
              rw [ba_mk] at ht0
              have d0 := HX3.out.d0
              have hmem : (o.data.toList, f) ∈ s.F := List.mem_of_getElem? HATT.out
              have hfo := HX3.out.hf _ hmem
              have hlo := HX3.out.hl _ hmem
              simp only at hfo hlo ht1 ht2
              obtain ⟨pf, cf, ef⟩ := own_slice hfo
              obtain ⟨pl, cl, el⟩ := own_slice hlo
              have hk : k < (Dk.less s).F.length := (List.getElem?_eq_some_iff.1 HATT.out).1
              have hl5 := HG.out.less.files
              rw [ef] at ht1
              rw [el] at ht2
              have HFO := Lib.hid (And.intro hfo hlo)
              have HMEM := Lib.hid hmem
              have HEF := Lib.hid (And.intro ef el)
              generalize hL : (Dk.less s).F.length = len at *
              have HLL := Lib.hid hL
              have hat3 : (w3.alloc (.cells #[.string n, .slice pf (fastB f).length cf, .slice pl (looseB f).length cl] 80)).heap[w3.heap.size]? = some (.cells #[.string n, .slice pf (fastB f).length cf, .slice pl (looseB f).length cl] 80 (0, 0)) := allocs_at [.cells #[.string n, .slice pf (fastB f).length cf, .slice pl (looseB f).length cl] 80] w3 0 _ rfl
              have hb3 := bel_alloc (Below.refl w3.heap.size w3) (.cells #[.string n, .slice pf (fastB f).length cf, .slice pl (looseB f).length cl] 80)
              have HAT3 := Lib.hid hat3
              have HB3 := Lib.hid hb3
              clear hfo hlo hmem ef el hat3 hb3 hL
              go_wp2_with fail
              refine (rwithout_any (HX3.out.below HB3.out) HG.out.less o).mono ?_
              rintro e w4 ⟨p, c', rfl, hrow, hb4⟩
              have hb34 := HB3.out.trans (hb4.mono HB3.out.size)
              have hx4 := HX3.out.below hb34
              have d4 := hx4.d0
              have z4 := hx4.fz 0
              obtain ⟨hx5, ho5⟩ := HX3.out.setDel hb34 hrow HB3.out.size fun x hx => (mem_del.1 hx).1
              have hbox : w4.heap[w3.heap.size]? = some (.cells #[.string n, .slice pf (fastB f).length cf, .slice pl (looseB f).length cl] 80 (0, 0)) := (hb4.block _ (Array.getElem?_eq_some_iff.1 HAT3.out).1).trans HAT3.out
              have hrdlt := HX3.out.rdlt
              have hne : w3.heap.size ≠ rd := by omega
              generalize hm : (del o.data.toList (Dk.less s).F).length = m at *
              have HM2 := Lib.hid hm
              have b0 : (w4.setCell ⟨rd, 0, none⟩ (.slice p m c')).cell? ⟨w3.heap.size, 0, none⟩ = some (.string n) := by rw [cell_setRd hne, cell_of_block hbox]; rfl
              have b1 : (w4.setCell ⟨rd, 0, none⟩ (.slice p m c')).cell? ⟨w3.heap.size, 1, none⟩ = some (.slice pf (fastB f).length cf) := by rw [cell_setRd hne, cell_of_block hbox]; rfl
              have b2 : (w4.setCell ⟨rd, 0, none⟩ (.slice p m c')).cell? ⟨w3.heap.size, 2, none⟩ = some (.slice pl (looseB f).length cl) := by rw [cell_setRd hne, cell_of_block hbox]; rfl
              have hkeep : ∀ (v : Value) (m' : Nat) (xs : List Value), w3.ownsRow 0 5 1 v m' xs → (w4.setCell ⟨rd, 0, none⟩ (.slice p m c')).ownsRow 0 5 1 v m' xs := fun v m' xs hv =>
                ownsRow_block hv fun g hg => by
                  rw [heap_setCell_other _ _ _ _ fun e => (HX3.out.byte_ne hv hg).1 e]
                  exact hb34.block g (hv.lt g hg).2
              have hg5 : Fine { Dk.less s with F := del o.data.toList (Dk.less s).F } := by
                have hl := HG.out.less
                exact ⟨Nat.le_trans (length_del_le _ _) hl.files, Nat.le_trans (total_del_le _ _) hl.bytes, hl.q0, hl.q1, hl.f0, hl.f1, fun x hx => hl.fast x (mem_del.1 hx).1, fun x hx => hl.name x (mem_del.1 hx).1, del_rise hl.rise⟩
              have hσ : ∀ g, (∃ r, σ g = some r) → ∃ r, newσ σ w3 (w4.setCell ⟨rd, 0, none⟩ (.slice p m c')) g = some r := fun g ⟨r, e⟩ => ⟨r, by unfold newσ; rw [e]⟩
              have hlay := rlay_any hx5 hg5 n.data.toList f (.slice pf (fastB f).length cf) (.slice pl (looseB f).length cl) (by rw [← HEF.out.1]; exact hkeep _ _ _ HFO.out.1) (by rw [← HEF.out.2]; exact hkeep _ _ _ HFO.out.2)
                (fun g hg => hσ g (HX3.out.rf _ HMEM.out g (by simp only; rw [HEF.out.1]; exact hg))) (fun g hg => hσ g (HX3.out.rl _ HMEM.out g (by simp only; rw [HEF.out.2]; exact hg)))
              rw [ba_mk] at hlay
              have HLAY := Lib.hid hlay
              have HO5 := Lib.hid ho5
              clear hlay hσ hkeep hx5 ho5 hbox hne hrdlt hrow hb4 hb34 hx4 hg5 hm
              go_wp2_with fail
              refine HLAY.out.mono ?_
              rintro e w5 ⟨rfl, σ', hr, hf5⟩
              have HR := Lib.hid hr
              have HF5 := Lib.hid hf5
              clear hr hf5 HLAY b0 b1 b2
              go_wp2_with fail
              go_ret
              unfold RefPost
              rw [HQ.out, if_neg HON.out]
              refine ⟨rfl, σ', ?_, (HF3.out.trans HO5.out.fr).trans HF5.out⟩
              rw [put_del HG.out.rise HON.out]
              exact HR.out
        · have k0 : (readE o.data.toList s != 0) = true := by simpa using h0
          have HQ := Lib.hid (rename_e HRF.out h0)
          rw [if_neg h0]
          clear h0
          generalize readE o.data.toList s = E at *
          go_wp2_with fail
          go_ret
          exact RefPost.err HQ.out H.out HB.out
  · rw [ho] at d3
    have HO := Lib.hid (show answers s = 8 from by unfold answers; rw [ho]; rfl)
    clear ho
    go_enter Tryz.func34, Tryz.ntmps34
    go_wp2_with fail
    go_ret
    exact RefPost.err (rename_e (by rw [HO.out]; rfl) (by decide)) H.out (Below.refl _ _)

/-- Bytes behind a copy of others. -/
theorem own_app {w : World} {p1 p2 : Option Addr} {a b cb : Nat} {b1 b2 : List UInt8} (h1 : BytesAt w p1 a b1) (h2 : BytesAt w p2 b b2) (hc2 : p2 = none → cb = 0) (hs : a + b ≤ 140737488355328) {w3 : World} {q : Option Addr} {d : Nat}
    (ho : w3.ownsRow w.heap.size 5 1 (.slice q a d) a (b1.map encU8)) (hb : Below w.heap.size w w3) (ty : TypeId) :
    ∃ p5 c5 w5, (Builtin.append_ #[31, 31] ty #[.slice q a d, .slice p2 b cb]).run Tryz.prog w3 = .ok (.slice p5 (a + b) c5) w5 ∧ w5.ownsRow w.heap.size 5 1 (.slice p5 (a + b) c5) (a + b) ((b1 ++ b2).map encU8) ∧ Below w.heap.size w w5 := by
  have h2' := h2.keep (w' := w3) fun x _ hlt => hb.block _ hlt
  obtain ⟨v', w5, hr, k1, k2, _⟩ := appN eln_u8 w3 w.heap.size (.slice q a d) a _ ho p2 b cb (b2.map encU8) (by rw [List.length_map, h2.len, Nat.mul_one]) (fun x e j u hu => h2'.cells x e j u hu) (fun e => ⟨h2.nil e, hc2 e⟩) encU8_one (by unfold maxLen; omega) (by omega) hb.size ty
  obtain ⟨p5, c5, rfl⟩ := own3_slice k1
  rw [← List.map_append] at k1
  exact ⟨p5, c5, w5, hr, k1, hb.grown k2 hb.size fun g hg => (ho.lt g hg).1⟩

def RReadPost (w : World) (s : St) (n : Nm) (e : Ending) (w' : World) : Prop :=
  ∃ v, e = .returned (.tuple #[v, .int .i64 (readE n s)]) ∧ w'.ownsRow w.heap.size 5 1 v (readB n s).length ((readB n s).map encU8) ∧ Below w.heap.size w w'
set_option maxRecDepth 100000 in
set_option maxHeartbeats 2000000 in
theorem rread_any (h : RefX σ w rd s vF fv lv) (hg : Fine s) (n : ByteArray) (hn : n.size ≤ maxLen) :
    Calls Tryz.prog 11 #[.pointer (some ⟨rd, 0, none⟩), .string n] w (RReadPost w s n.data.toList) := by
  have H := Lib.hid h
  have HG := Lib.hid hg
  clear h hg
  go_enter Tryz.func11, Tryz.ntmps11
  go_wp2_with fail
  refine (rfind_any H.out HG.out n hn).mono ?_
  rintro e w2 ⟨rfl, hb⟩
  have HB := Lib.hid hb
  have HX2 := Lib.hid (H.out.below hb)
  clear hb
  by_cases h0 : readE n.data.toList s = 0
  · obtain ⟨f, hf⟩ := readE_get h0
    have hrb : readB n.data.toList s = f.b := by unfold readB; rw [if_pos h0, hf]; rfl
    have HRB := Lib.hid (And.intro h0 hrb)
    have hat := at_get HG.out.rise hf
    obtain ⟨g, c, hv, _, ht1, ht2, _, _, _⟩ := HX2.out.tri hat
    subst hv
    have d0 := HX2.out.d0
    have hmem := List.mem_of_getElem? hat
    have hfo := HX2.out.hf _ hmem
    have hlo := HX2.out.hl _ hmem
    have hsz := HG.out.size_le hf
    have hfx := HG.out.fast _ hmem
    simp only at hfo hlo ht1 ht2 hfx
    obtain ⟨pf, cf, ef⟩ := own_slice hfo
    obtain ⟨pl, cl, el⟩ := own_slice hlo
    have hk : atI n.data.toList s.F < s.F.length := (List.getElem?_eq_some_iff.1 hat).1
    have hl5 := HG.out.files
    rw [ef] at ht1 hfo
    rw [el] at ht2 hlo
    have hfl := fastB_len hfx
    have hll := looseB_len f
    have h1 := own_bytes hfo
    have h2 := own_bytes hlo
    have hn1 := own_none hfo
    have hn2 := own_none hlo
    have hlong : (fastB f).length + (looseB f).length ≤ 4194304 := by omega
    have HSZ := Lib.hid (And.intro hsz (And.intro hfl hll))
    rw [if_pos h0, h0]
    generalize atI n.data.toList s.F = k at *
    generalize hL : s.F.length = len at *
    generalize hA : (fastB f).length = fa at *
    generalize hB2 : (looseB f).length = lb at *
    have HAB := Lib.hid (And.intro hA hB2)
    have hj0 : (0 : Int) ≤ (k : Int) := by omega
    have hjk : (k : Int) < (len : Int) := by omega
    have HS := Lib.hid (show ∀ V, Below w2.heap.size w2 V → V.cell? ⟨rd, 0, none⟩ = some (.slice (some ⟨g, 0, none⟩) len c) ∧ V.cell? ⟨g, k * 3 + 1, none⟩ = some (.slice pf fa cf) ∧ V.cell? ⟨g, k * 3 + 2, none⟩ = some (.slice pl lb cl) ∧ Below w2.heap.size w2 V from
      fun V hV => ⟨(hV.cell (cell_lt d0)).trans d0, (hV.cell (cell_lt ht1)).trans ht1, (hV.cell (cell_lt ht2)).trans ht2, hV⟩)
    clear hf hrb hat hmem hfo hlo hsz hfx ef el hfl hll h0 hL hA hB2
    go_wp2_with fail
    have HOWN := Lib.hid (show ∀ V, Below w2.heap.size w2 V → Calls Tryz.prog 26 #[.slice pf fa cf] V (OwnPost V fa (fastB f)) from
      fun V hV => own_any V pf fa cf (fastB f) (h1.keep fun x _ hlt => hV.block _ hlt) hn1 (by omega))
    have HAPP := Lib.hid (show ∀ (w3 : World) (q : Option Addr) (d : Nat), w3.ownsRow w2.heap.size 5 1 (.slice q fa d) (fastB f).length ((fastB f).map encU8) → Below w2.heap.size w2 w3 → ∃ p5 c5 w5, (Builtin.append_ #[31, 31] 31 #[.slice q fa d, .slice pl lb cl]).run Tryz.prog w3 = .ok (.slice p5 (fa + lb) c5) w5 ∧ w5.ownsRow w2.heap.size 5 1 (.slice p5 (fa + lb) c5) (fa + lb) ((fastB f ++ looseB f).map encU8) ∧ Below w2.heap.size w2 w5 from
      fun w3 q d ho hb => own_app h1 h2 hn2 (by omega) (by rw [HAB.out.1] at ho; exact ho) hb _)
    clear h1 h2 hn1 hn2
    go_wp2_with fail
    go_region_held3 (fun w' => w'.cell? ⟨rd, 0, none⟩ = some (.slice (some ⟨g, 0, none⟩) len c) ∧ w'.cell? ⟨g, k * 3 + 1, none⟩ = some (.slice pf fa cf) ∧ w'.cell? ⟨g, k * 3 + 2, none⟩ = some (.slice pl lb cl) ∧ Below w2.heap.size w2 w') (exact HS.out _ (by repeat (first | assumption | exact Below.refl _ _ | exact below_drewN _ _ | apply Below.drew)))
      (first
        | (go_at_call 26; refine (HOWN.out _ ?_).mono ?_; (repeat (first | assumption | exact Below.refl _ _ | apply Below.drew)); rintro e w3 ⟨q, d, rfl, hown3, hb3⟩; have hbx : Below w2.heap.size w2 w3 := (Below.refl w2.heap.size w2).drew.trans hb3; obtain ⟨p5, c5, w5, hrun, hown5, hb5⟩ := HAPP.out w3 q d hown3 hbx)
        | (refine step_append_run (by rfl) _ _ 31 (by rfl) _ _ _ (by rfl) (by rfl) hrun ?_))
    all_goals
      have HOWN5 := Lib.hid hown5
      have HB5 := Lib.hid (HB.out.trans (hb5.mono HB.out.size))
      clear hown5 hb5 hbx hb3 hown3 hrun
      go_wp2_with fail
      go_ret2
      refine ⟨_, by rw [HRB.out.1]; rfl, ?_, HB5.out⟩
      have h := HOWN5.out
      rw [fast_loose] at h
      rw [HRB.out.2]
      have hl : f.b.length = fa + lb := by rw [← fast_loose f, List.length_append, HAB.out.1, HAB.out.2]
      rw [hl]
      exact own_base h fun g hg => Nat.le_trans HB.out.size (h.lt g hg).1
  · have k0 : (readE n.data.toList s != 0) = true := by simpa using h0
    have HQ := Lib.hid (show readB n.data.toList s = [] from by unfold readB; rw [if_neg h0])
    rw [if_neg h0]
    clear h0
    generalize hE : readE n.data.toList s = E at *
    have HE := Lib.hid hE
    clear hE
    go_wp2_with fail
    go_ret2
    unfold RReadPost
    rw [HQ.out, HE.out]
    exact ⟨_, rfl, World.ownsRow_nil _ _ _ _, HB.out⟩
end
end Go.Proofs.YtjlchphbkmaacaaGreatDoor
