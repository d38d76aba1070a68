/- The reference's lay: a file among the others. -/
import Derived.Test.YtjlchphbkmaacaaGreatDoorHe
set_option linter.unusedVariables false
set_option linter.unusedSimpArgs false
namespace Go.Proofs.YtjlchphbkmaacaaGreatDoor
open Go.RowKit Go.MapKept Go.ChangeMaps Go.Maps
attribute [local go_sem ↓] Go.wp_at_zero Go.wp_at_succ
open Dk

theorem ba_listH (l : List UInt8) : (⟨l.toArray⟩ : ByteArray).data.toList = l := rfl
theorem slice3_pre (p : Option Addr) (n c k : Nat) (hk : k ≤ c) (w : World) : (Instr.slice 59 (.slice p n c) none (some (.int .i64 k)) none).run Tryz.prog w = .ok (.slice p k c) w := by
  have hsz : (sizeOf (Tryz.prog.elem 59)).run Tryz.prog w = .ok 3 w := by kernel_rfl
  rw [run_slice_h (P := Tryz.prog) w 59 p n c (by kernel_rfl) .i64 (k : Int) (by omega) (by omega), hsz]
  have e : (if c = 0 then p else p.map (·.add (0 * 3))) = p := by
    split
    · rfl
    · cases p with
      | none => rfl
      | some a => simp [Addr.add]
  show Result.ok (sliced p 0 (k : Int).toNat c 3) w = _
  unfold sliced
  rw [e]
  simp
def sufAt (p : Option Addr) (c k : Nat) : Option Addr := if c = k then p else p.map (·.add (k * 3))
theorem slice3_suf (p : Option Addr) (n c k : Nat) (hk : k ≤ n) (w : World) : (Instr.slice 59 (.slice p n c) (some (.int .i64 k)) none none).run Tryz.prog w = .ok (.slice (sufAt p c k) (n - k) (c - k)) w := by
  have hsz : (sizeOf (Tryz.prog.elem 59)).run Tryz.prog w = .ok 3 w := by kernel_rfl
  rw [run_slice_l (P := Tryz.prog) w 59 p n c (by kernel_rfl) .i64 (k : Int) (by omega) (by omega), hsz]
  rfl

theorem own_base3 {w : World} {b b' : Nat} {e : TypeId} {k : Nat} {v : Value} {n : Nat} {xs : List Value} (h : w.ownsRow b e k v n xs) (hb : ∀ g, v.ownBlock = some g → b' ≤ g) : w.ownsRow b' e k v n xs := by
  obtain ⟨h1, h2⟩ := h
  refine ⟨h1, ?_⟩
  rcases h2 with h2 | ⟨g, cap, cur, hv, hg, r⟩
  · exact Or.inl h2
  · exact Or.inr ⟨g, cap, cur, hv, hb g (by rw [hv]; rfl), r⟩

section
variable {σ : Nat → Option Role} {w : World} {rd : Nat} {s : St} {vF : Value} {fv lv : Nm → Value}

/-- A part of the row of files, to be appended. -/
theorem Dk.RefX.part (h : RefX σ w rd s vF fv lv) {p : Option Addr} {c : Nat} (hv : vF = .slice p s.F.length c) {i : Nat} (hi : i ≤ s.F.length) :
    s.F.length ≤ c ∧ (p = none → c = 0) ∧ (∀ a, p = some a → ∀ j u, (cellsF fv lv (s.F.take i))[j]? = some u → w.cell? (a.add j) = some u) ∧
      (∀ a, sufAt p c i = some a → ∀ j u, (cellsF fv lv (s.F.drop i))[j]? = some u → w.cell? (a.add j) = some u) ∧ (sufAt p c i = none → s.F.length - i = 0 ∧ c - i = 0) := by
  subst hv
  rcases h.row.2 with ⟨h1, h2⟩ | ⟨g, cap, cur, hv, _, hg, hc, _, hs, ht⟩
  · simp only [Value.slice.injEq] at h1
    obtain ⟨rfl, h3, rfl⟩ := h1
    refine ⟨by omega, (fun _ => rfl), (fun a e => by cases e), (fun a e => ?_), (fun _ => by omega)⟩
    unfold sufAt at e
    split at e <;> cases e
  · simp only [Value.slice.injEq] at hv
    obtain ⟨rfl, _, rfl⟩ := hv
    have hcell : ∀ j u, (cellsF fv lv s.F)[j]? = some u → w.cell? ⟨g, j, none⟩ = some u := fun j u hu => by
      rw [cell_of_block hg, ← Array.getElem?_toList]
      rw [← ht, List.getElem?_take] at hu
      split at hu
      · exact hu
      · cases hu
    refine ⟨hc, (fun e => by cases e), (fun a e j u hu => ?_), (fun a e j u hu => ?_), (fun e => ?_)⟩
    · cases e
      rw [add_zero']
      rw [← cellsF_take fv lv s.F i hi, List.getElem?_take] at hu
      split at hu
      · exact hcell j u hu
      · cases hu
    · have hul := (List.getElem?_eq_some_iff.1 hu).1
      rw [cellsF_len, List.length_drop] at hul
      unfold sufAt at e
      rw [if_neg (by omega)] at e
      cases e
      rw [← cellsF_drop fv lv s.F i hi, List.getElem?_drop] at hu
      have e1 : ((⟨g, 0, none⟩ : Addr).add (i * 3)).add j = ⟨g, i * 3 + j, none⟩ := by
        rw [add_zero']
        unfold Addr.add
        split
        · rename_i h0; rw [h0]; rfl
        · rfl
      show w.cell? (((⟨g, 0, none⟩ : Addr).add (i * 3)).add j) = some u
      rw [e1]
      exact hcell _ u hu
    · unfold sufAt at e
      split at e <;> cases e

def RLayPost (σ : Nat → Option Role) (w : World) (rd : Nat) (s' : St) (e : Ending) (w' : World) : Prop := e = .returned (.tuple #[]) ∧ ∃ σ', RefRep σ' w' rd s' ∧ Fr σ σ' w w'
theorem cell_setRd {w : World} {rd i : Nat} {v : Value} {b o : Nat} (h : b ≠ rd) : (w.setCell ⟨rd, i, none⟩ v).cell? ⟨b, o, none⟩ = w.cell? ⟨b, o, none⟩ :=
  World.cell?_setCell_other _ _ _ _ (by intro e; cases e; exact h rfl)

set_option maxRecDepth 100000 in
set_option maxHeartbeats 2000000 in
theorem rlay_any (h : RefX σ w rd s vF fv lv) (hg : Fine s) (n : Nm) (f : Fi) (vf vl : Value) (hvf : w.ownsRow 0 5 1 vf (fastB f).length ((fastB f).map encU8)) (hvl : w.ownsRow 0 5 1 vl (looseB f).length ((looseB f).map encU8))
    (hmf : ∀ g, vf.ownBlock = some g → ∃ r, σ g = some r) (hml : ∀ g, vl.ownBlock = some g → ∃ r, σ g = some r) :
    Calls Tryz.prog 59 #[.pointer (some ⟨rd, 0, none⟩), .agg #[.string ⟨n.toArray⟩, vf, vl]] w (RLayPost σ w rd { s with F := put n f s.F }) := by
  obtain ⟨pf, cf, ef⟩ := own_slice hvf
  obtain ⟨pl, cl, el⟩ := own_slice hvl
  have H := Lib.hid h
  have HG := Lib.hid hg
  have HVF := Lib.hid (And.intro hvf hmf)
  have HVL := Lib.hid (And.intro hvl hml)
  have HEF := Lib.hid (And.intro ef el)
  clear h hg hvf hvl hmf hml
  have hb1 := bel_alloc (Below.refl w.heap.size w) (.cells #[.string ⟨n.toArray⟩, vf, vl] 80)
  have hat1 : (w.alloc (.cells #[.string ⟨n.toArray⟩, vf, vl] 80)).heap[w.heap.size]? = some (.cells #[.string ⟨n.toArray⟩, vf, vl] 80 (0, 0)) := allocs_at [.cells #[.string ⟨n.toArray⟩, vf, vl] 80] w 0 _ rfl
  have H1 := Lib.hid (H.out.below hb1)
  have HB1 := Lib.hid hb1
  have HAT := Lib.hid hat1
  subst ef el
  clear hb1 hat1
  go_enter Tryz.func59, Tryz.ntmps59
  go_wp2_with fail
  refine (rwithout_any H1.out HG.out ⟨n.toArray⟩).mono ?_
  rintro e w2 ⟨p, c, rfl, hrow, hb2⟩
  rw [ba_listH] at hrow
  rw [ba_listH]
  have hbox : w2.heap[w.heap.size]? = some (.cells #[.string ⟨n.toArray⟩, .slice pf (fastB f).length cf, .slice pl (looseB f).length cl] 80 (0, 0)) := (hb2.block _ (by rw [World.size_alloc]; omega)).trans HAT.out
  have hrdlt := H.out.rdlt
  have hb12 := HB1.out.trans (hb2.mono HB1.out.size)
  have hd2 := (H.out.below hb12).d0
  have hz2 := (H.out.below hb12).fz 0
  have hne : w.heap.size ≠ rd := by omega
  have c0 : (w2.setCell ⟨rd, 0, none⟩ (.slice p (del n s.F).length c)).cell? ⟨w.heap.size, 0, none⟩ = some (.string ⟨n.toArray⟩) := by rw [cell_setRd hne, cell_of_block hbox]; rfl
  -- the files but one
  obtain ⟨s1, hs1⟩ : ∃ s1 : St, s1 = { s with F := del n s.F } := ⟨_, rfl⟩
  have hF1 : s1.F = del n s.F := by rw [hs1]
  have ho3 : Only σ w (w2.setCell ⟨rd, 0, none⟩ (.slice p (del n s.F).length c)) := (Only.of_below hb12).setCell (.inl H.out.hrd) _
  have hX3 : RefX (newσ σ w (w2.setCell ⟨rd, 0, none⟩ (.slice p (del n s.F).length c))) (w2.setCell ⟨rd, 0, none⟩ (.slice p (del n s.F).length c)) rd s1 (.slice p (del n s.F).length c) fv lv := by
    refine H.out.toX ho3 ?_ ?_ (fun g hg => .inr ?_) (fun x hx => ⟨?_, fun g hg => .inl (H.out.rf x ?_ g hg)⟩) (fun x hx => ⟨?_, fun g hg => .inl (H.out.rl x ?_ g hg)⟩)
    · rw [heap_setCell_same w2 rd 0 _ _ _ (H.out.below hb12).hd, hs1]
      rfl
    · rw [hF1]
      refine ownsRow_block (own_base3 hrow fun g hg => Nat.zero_le _) fun g hg => heap_setCell_other _ _ _ _ fun e => ?_
      have := (hrow.lt g hg).1
      rw [World.size_alloc] at this
      have e : g = rd := e
      omega
    · have := (hrow.lt g hg).1
      rw [World.size_alloc] at this
      omega
    · rw [hF1] at hx
      have hx' := (mem_del.1 hx).1
      exact ownsRow_block ((H.out.below hb12).hf x hx') fun g hg => heap_setCell_other _ _ _ _ fun e => ((H.out.below hb12).byte_ne ((H.out.below hb12).hf x hx') hg).1 e
    · rw [hF1] at hx
      exact (mem_del.1 hx).1
    · rw [hF1] at hx
      have hx' := (mem_del.1 hx).1
      exact ownsRow_block ((H.out.below hb12).hl x hx') fun g hg => heap_setCell_other _ _ _ _ fun e => ((H.out.below hb12).byte_ne ((H.out.below hb12).hl x hx') hg).1 e
    · rw [hF1] at hx
      exact (mem_del.1 hx).1
  have hfr3 := ho3.fr
  have hg1 : Fine s1 := by
    rw [hs1]
    exact ⟨Nat.le_trans (length_del_le _ _) HG.out.files, Nat.le_trans (total_del_le _ _) HG.out.bytes, HG.out.q0, HG.out.q1, HG.out.f0, HG.out.f1, fun x hx => HG.out.fast x (mem_del.1 hx).1, fun x hx => HG.out.name x (mem_del.1 hx).1, del_rise HG.out.rise⟩
  have hrow2 : ∀ (v : Value) (m : Nat) (xs : List Value), w.ownsRow 0 5 1 v m xs → (w2.setCell ⟨rd, 0, none⟩ (.slice p (del n s.F).length c)).ownsRow 0 5 1 v m xs := fun v m xs hv =>
    ownsRow_block hv fun g hg => by
      rw [heap_setCell_other _ _ _ _ fun e => (H.out.byte_ne hv hg).1 e]
      exact hb12.block g (hv.lt g hg).2
  have hbox3 : (w2.setCell ⟨rd, 0, none⟩ (.slice p (del n s.F).length c)).heap[w.heap.size]? = some (.cells #[.string ⟨n.toArray⟩, .slice pf (fastB f).length cf, .slice pl (looseB f).length cl] 80 (0, 0)) := by
    rw [heap_setCell_other _ _ _ _ fun e => hne e]
    exact hbox
  have hsz3 : w.heap.size ≤ (w2.setCell ⟨rd, 0, none⟩ (.slice p (del n s.F).length c)).heap.size := ho3.size
  rw [← hF1] at hX3 hfr3 hrow2 hbox3 hsz3 c0
  rw [← hF1]
  have HX3 := Lib.hid hX3
  have HG1 := Lib.hid hg1
  have HF1 := Lib.hid hF1
  have HS1 := Lib.hid hs1
  have HR2 := Lib.hid hrow2
  have HBOX := Lib.hid hbox3
  have HFR3 := Lib.hid hfr3
  have HSZ := Lib.hid hsz3
  have HNE := Lib.hid hne
  clear hX3 hg1 hF1 hs1 hrow2 hbox3 hfr3 hrow hb2 hbox hb12 hne ho3 hsz3 hrdlt
  go_wp2_with fail
  generalize w2.setCell ⟨rd, 0, none⟩ (.slice p s1.F.length c) = w3 at *
  generalize hσ : newσ σ w w3 = σ1 at *
  clear hd2 hz2
  refine (at_any HX3.out HG1.out ⟨n.toArray⟩).mono ?_
  rintro e w4 ⟨rfl, hb4⟩
  rw [ba_listH]
  have HX4 := Lib.hid (HX3.out.below hb4)
  have hbox4 := (hb4.block w.heap.size (Array.getElem?_eq_some_iff.1 HBOX.out).1).trans HBOX.out
  have HBOX4 := Lib.hid hbox4
  have HB4 := Lib.hid hb4
  have hile := atI_le n s1.F
  obtain ⟨hcc, hpc, hpre, hsuf, hsn⟩ := HX4.out.part rfl hile
  have hlen := HG1.out.files
  generalize hI : atI n s1.F = i at *
  have HI := Lib.hid hI
  have hd4 := HX4.out.d0
  have hs1 := slice3_pre p s1.F.length c i (by omega)
  have hones : ∀ (F : List (Nm × Fi)), (∀ x ∈ F, x ∈ s1.F) → ∀ u ∈ cellsF fv lv F, u.oneCell' = true := fun F hF u hu => by
    obtain ⟨x, hx, hux⟩ := List.mem_flatMap.1 hu
    obtain ⟨a1, b1, e1⟩ := own_slice (HX4.out.hf x (hF x hx))
    obtain ⟨a2, b2, e2⟩ := own_slice (HX4.out.hl x (hF x hx))
    exact tri_one e1 e2 u hux
  obtain ⟨l1, w5, hrun1, r1, g1, o1⟩ := appN eln_file w4 w4.heap.size (.slice none 0 0) 0 [] (World.ownsRow_nil _ _ _ _) p i c (cellsF fv lv (s1.F.take i)) (by rw [cellsF_len, List.length_take]; omega) hpre (fun e => by have := hpc e; omega) (hones _ fun x hx => List.mem_of_mem_take hx) (by unfold maxLen; omega) (by omega) (Nat.le_refl _) 59
  have HSUF := Lib.hid (And.intro hsuf hsn)
  have HON := Lib.hid hones
  have hb5 : Below w4.heap.size w4 w5 := (Below.refl _ _).grown g1 (Nat.le_refl _) (fun g hg => by cases hg)
  have R1 := Lib.hid r1
  have HB5 := Lib.hid hb5
  clear hb4 hI hpre hsuf hsn hones r1 g1 o1 c0 hbox4 hpc
  have hil : (s1.F.take i).length = i := by rw [List.length_take]; omega
  have hr1 := R1.out
  rw [List.nil_append, Nat.zero_add] at hr1
  have hbox5 := (HB5.out.block w.heap.size (Array.getElem?_eq_some_iff.1 HBOX4.out).1).trans HBOX4.out
  have b0 : w5.cell? ⟨w.heap.size, 0, none⟩ = some (.string ⟨n.toArray⟩) := cell_of_block (i := 0) hbox5
  have b1 : w5.cell? ⟨w.heap.size, 1, none⟩ = some (.slice pf (fastB f).length cf) := cell_of_block (i := 1) hbox5
  have b2 : w5.cell? ⟨w.heap.size, 2, none⟩ = some (.slice pl (looseB f).length cl) := cell_of_block (i := 2) hbox5
  obtain ⟨l2, w7, hrun2, r2, g2, o2⟩ := pushN eln_file w5 w4.heap.size l1 i _ hr1 #[.string ⟨n.toArray⟩, .slice pf (fastB f).length cf, .slice pl (looseB f).length cl] rfl (fun u hu => by simp at hu; rcases hu with rfl | rfl | rfl <;> rfl) (by unfold maxLen; omega) (by omega) HB5.out.size 59
  have hb7 : Below w4.heap.size w4 w7 := (HB5.out.alloc HB5.out.size _).grown g2 (by rw [World.size_alloc]; have := HB5.out.size; omega) fun g hg => (hr1.lt g hg).1
  have HB7 := Lib.hid hb7
  have R2 := Lib.hid r2
  clear hbox5 hr1 r2 g2 o2 hb7
  have HX7 := Lib.hid (HX4.out.below HB7.out)
  obtain ⟨_, _, _, hsuf, hsn⟩ := HX7.out.part rfl (show i ≤ s1.F.length by omega)
  obtain ⟨l3, w8, hrun3, r3, g3, o3⟩ := appN eln_file w7 w4.heap.size l2 (i + 1) _ R2.out (sufAt p c i) (s1.F.length - i) (c - i) (cellsF fv lv (s1.F.drop i)) (by rw [cellsF_len, List.length_drop]) hsuf hsn (HON.out _ fun x hx => List.mem_of_mem_drop hx) (by unfold maxLen; omega) (by omega) HB7.out.size 59
  obtain ⟨p3, c3, rfl⟩ := own3_slice r3
  have hb8 : Below w4.heap.size w4 w8 := HB7.out.grown g3 HB7.out.size fun g hg => (R2.out.lt g hg).1
  have HB8 := Lib.hid hb8
  have R3 := Lib.hid r3
  have d7 := HX7.out.d0
  have d8 := (HX4.out.below hb8).d0
  have z8 := (HX4.out.below hb8).fz 0
  have hs2 := slice3_suf p s1.F.length c i (by omega)
  clear r3 g3 o3 hb8 hsuf hsn
  go_wp2_with (first
    | (at_builtin; refine wpList_append_run rfl _ _ 59 rfl _ _ _ rfl rfl hrun1 ?_)
    | (at_builtin; refine wpList_append_run rfl _ _ 59 rfl _ _ _ rfl rfl hrun2 ?_)
    | (at_builtin; refine wpList_append_run rfl _ _ 59 rfl _ _ _ rfl rfl hrun3 ?_)
    | fail)
  clear hrun1 hrun2 hrun3 d7 hs1 hs2 b0 b1 b2 hd4
  go_end0
  refine ⟨rfl, ?_⟩
  have ho9 : Only σ1 w4 (w8.setCell ⟨rd, 0, none⟩ (.slice p3 (i + 1 + (s1.F.length - i)) c3)) := (Only.of_below HB8.out).setCell (.inl HX4.out.hrd) _
  have hFX : ∀ x ∈ s1.F, x ∈ s.F ∧ x.1 ≠ n := fun x hx => by rw [HF1.out] at hx; exact mem_del.1 hx
  have hσr : ∀ g, (∃ r, σ g = some r) → ∃ r, σ1 g = some r := fun g ⟨r, e⟩ => ⟨r, by rw [← hσ]; unfold newσ; rw [e]⟩
  have hkeep : ∀ (v : Value) (m : Nat) (xs : List Value), w4.ownsRow 0 5 1 v m xs → (w8.setCell ⟨rd, 0, none⟩ (.slice p3 (i + 1 + (s1.F.length - i)) c3)).ownsRow 0 5 1 v m xs := fun v m xs hv =>
    ownsRow_block hv fun g hg => by
      rw [heap_setCell_other _ _ _ _ fun e => (HX4.out.byte_ne hv hg).1 e]
      exact HB8.out.block g (hv.lt g hg).2
  have hsplit : put n f s.F = s1.F.take i ++ (n, f) :: s1.F.drop i := by
    unfold put
    rw [ins_split fun x hx => (mem_del.1 hx).2, ← HF1.out, HI.out]
  have hcg : ∀ F : List (Nm × Fi), (∀ x ∈ F, x ∈ s1.F) → cellsF (updV fv n (.slice pf (fastB f).length cf)) (updV lv n (.slice pl (looseB f).length cl)) F = cellsF fv lv F := fun F hF =>
    cellsF_congr fun x hx => ⟨updV_other _ _ (hFX x (hF x hx)).2, updV_other _ _ (hFX x (hF x hx)).2⟩
  have hcells : cellsF (updV fv n (.slice pf (fastB f).length cf)) (updV lv n (.slice pl (looseB f).length cl)) (put n f s.F) = (cellsF fv lv (s1.F.take i) ++ (#[.string ⟨n.toArray⟩, .slice pf (fastB f).length cf, .slice pl (looseB f).length cl] : Array Value).toList) ++ cellsF fv lv (s1.F.drop i) := by
    rw [hsplit, cellsF_append, hcg _ fun x hx => List.mem_of_mem_take hx, show (n, f) :: s1.F.drop i = [(n, f)] ++ s1.F.drop i from rfl, cellsF_append, cellsF_one, hcg _ fun x hx => List.mem_of_mem_drop hx, ← List.append_assoc]
    unfold triV
    simp only [updV_same]
  have hlen : (put n f s.F).length = i + 1 + (s1.F.length - i) := by
    rw [hsplit, List.length_append, List.length_cons, List.length_take, List.length_drop]
    omega
  have hvfk := hkeep _ _ _ (ownsRow_block (HR2.out _ _ _ HVF.out.1) fun g hg => HB4.out.block g ((HR2.out _ _ _ HVF.out.1).lt g hg).2)
  have hvlk := hkeep _ _ _ (ownsRow_block (HR2.out _ _ _ HVL.out.1) fun g hg => HB4.out.block g ((HR2.out _ _ _ HVL.out.1).lt g hg).2)
  have hX9 := HX4.out.toX ho9 (s' := { s with F := put n f s.F }) (vF' := .slice p3 (i + 1 + (s1.F.length - i)) c3) (fv' := updV fv n (.slice pf (fastB f).length cf)) (lv' := updV lv n (.slice pl (looseB f).length cl))
    (by
      rw [heap_setCell_same w8 rd 0 _ _ _ (HX4.out.below HB8.out).hd, HS1.out]
      rfl)
    (by
      show World.ownsRow _ 0 80 3 (.slice p3 (i + 1 + (s1.F.length - i)) c3) (put n f s.F).length (cellsF _ _ (put n f s.F))
      rw [hcells, hlen]
      exact ownsRow_block (own_base3 R3.out fun g hg => Nat.zero_le _) fun g hg => heap_setCell_other _ _ _ _ fun e => by
        have h1 := (R3.out.lt g hg).1
        have h2 := HX4.out.rdlt
        have e : g = rd := e
        omega)
    (fun g hg => .inr (R3.out.lt g hg).1)
    (fun x hx => by
      rcases mem_put.1 (show x ∈ put n f s.F from hx) with rfl | ⟨h1, h2⟩
      · rw [updV_same]
        exact ⟨hvfk, fun g hg => .inl (hσr g (HVF.out.2 g hg))⟩
      · have hx1 : x ∈ s1.F := by rw [HF1.out]; exact mem_del.2 ⟨h1, h2⟩
        rw [updV_other _ _ h2]
        exact ⟨hkeep _ _ _ (HX4.out.hf x hx1), fun g hg => .inl (HX4.out.rf x hx1 g hg)⟩)
    (fun x hx => by
      rcases mem_put.1 (show x ∈ put n f s.F from hx) with rfl | ⟨h1, h2⟩
      · rw [updV_same]
        exact ⟨hvlk, fun g hg => .inl (hσr g (HVL.out.2 g hg))⟩
      · have hx1 : x ∈ s1.F := by rw [HF1.out]; exact mem_del.2 ⟨h1, h2⟩
        rw [updV_other _ _ h2]
        exact ⟨hkeep _ _ _ (HX4.out.hl x hx1), fun g hg => .inl (HX4.out.rl x hx1 g hg)⟩)
  exact ⟨_, ⟨_, _, _, hX9⟩, (HFR3.out.trans (Fr.of_below HB4.out)).trans ho9.fr⟩
end
end Go.Proofs.YtjlchphbkmaacaaGreatDoor
