/- Fuse, Rename. -/
import Derived.Test.YtjlchphbkmaacaaGreatDoorEb
set_option linter.unusedVariables false
set_option linter.unusedSimpArgs false
namespace Go.Proofs.YtjlchphbkmaacaaGreatDoor
open Go.RowKit Go.MapKept Go.ChangeMaps Go.Maps
attribute [local go_sem ↓] Go.wp_at_zero Go.wp_at_succ
open Dk

/-- New blocks, one behind the other. -/
def allocs (w : World) : List Obj → World
  | [] => w
  | o :: r => allocs (w.alloc o) r
theorem allocs_below (l : List Obj) : ∀ w : World, Below w.heap.size w (allocs w l) := by
  induction l with
  | nil => exact fun w => Below.refl _ _
  | cons o r ih => exact fun w => (bel_alloc (Below.refl _ w) o).trans ((ih (w.alloc o)).mono (by simp))
theorem allocs_at : ∀ (l : List Obj) (w : World) (i : Nat) (o : Obj), l[i]? = some o → (allocs w l).heap[w.heap.size + i]? = some o
  | [], _, _, _, h => by simp at h
  | x :: r, w, 0, o, h => by
    have hx : x = o := by simpa using h
    subst hx
    have := (allocs_below r (w.alloc x)).block w.heap.size (by simp)
    exact this.trans (heap_alloc_new w x)
  | x :: r, w, i + 1, o, h => by
    have := allocs_at r (w.alloc x) i o (by simpa using h)
    rw [show (w.alloc x).heap.size = w.heap.size + 1 by simp] at this
    rw [show w.heap.size + (i + 1) = w.heap.size + 1 + i by omega]
    exact this

set_option maxRecDepth 100000 in
set_option maxHeartbeats 1000000 in
theorem fuse_any {ρ : Nat → Option Role} {w : World} {bd : Nat} {s : St} {bm : Nat} {blk : Nm → Nat} {dv : Nm → Value} (h : RepX ρ w bd s bm blk dv) (k : Int) :
    Calls Tryz.prog 22 #[.pointer (some ⟨bd, 0, none⟩), .int .i64 k] w (MethPost ρ w bd (fuse k s)) := by
  have hmf : ∀ (fn : Fn) (first cap : Array Value) (w : World), (Instr.makeFunc fn first cap).run Tryz.prog w = .ok (.func fn first cap) w := fun _ _ _ _ => rfl
  go_enter Tryz.func22, Tryz.ntmps22
  go_wp2_with fail
  refine (wrong_any (decide (k < -1)) 1 w).mono ?_
  rintro e w1 ⟨rfl, rfl⟩
  go_wp2_with fail
  have hb := allocs_below [Obj.cells #[Value.bool (decide (k < -1))] 4, Obj.cells #[Value.int .i64 1] 25, Obj.cells #[.func (.func 44) #[.pointer (some ⟨bd, 0, none⟩)] #[], .func (.func 69) #[] #[.pointer (some ⟨w.heap.size, 0, none⟩), .pointer (some ⟨w.heap.size + 1, 0, none⟩)]] 72 (0, 0)] w
  have hat := allocs_at [Obj.cells #[Value.bool (decide (k < -1))] 4, Obj.cells #[Value.int .i64 1] 25, Obj.cells #[.func (.func 44) #[.pointer (some ⟨bd, 0, none⟩)] #[], .func (.func 69) #[] #[.pointer (some ⟨w.heap.size, 0, none⟩), .pointer (some ⟨w.heap.size + 1, 0, none⟩)]] 72 (0, 0)] w
  have q0 := hat 0 _ rfl
  have q1 := hat 1 _ rfl
  have q2 := hat 2 _ rfl
  have hr := h.below hb
  generalize hW : allocs w _ = W at *
  have hA : Asks Tryz.prog (w.heap.size + 2) [.func (.func 44) #[.pointer (some ⟨bd, 0, none⟩)] #[], .func (.func 69) #[] #[.pointer (some ⟨w.heap.size, 0, none⟩), .pointer (some ⟨w.heap.size + 1, 0, none⟩)]] W
      (fun m W' => m = first [answers s, if k < -1 then 1 else 0] ∧ Below W.heap.size W W') := by
    have hbs := (Array.getElem?_eq_some_iff.1 q2).1
    have c0 := cell_of_block (i := 0) q0
    have c1 := cell_of_block (i := 0) q1
    refine asks_cons (ask_answers hr) (Below.refl _ _) hbs (fun e0 W1 b1 => ?_) (fun e0 W1 b1 => ⟨by simp [first, e0], b1⟩)
    refine asks_cons (ask_wrong (b := decide (k < -1)) (n := 1) c0 c1 (cell_lt c0) (cell_lt c1)) b1 hbs (fun e1 W2 b2 => ⟨?_, b2⟩) (fun e1 W2 b2 => ⟨?_, b2⟩)
    · simp only [decide_eq_true_eq] at e1
      simp [first, e0, e1]
    · simp only [decide_eq_true_eq] at e1
      simp [first, e0, e1]
  have hfc := first_calls (w.heap.size + 2) _ _ W q2 (by simp) hA
  subst hW
  refine hfc.mono ?_
  rintro e w2 ⟨m, rfl, hm, hb'⟩
  have hb2 : Below w.heap.size w w2 := hb.trans (hb'.mono hb.size)
  have hr2 := h.below hb2
  clear hb hb' hat q0 q1 q2 hr hA hfc
  have f2 : w2.frozen? ⟨bd, 2, none⟩ = false := frozen_of_block hr2.hd
  have c2 := hr2.c2
  have HR := Lib.hid hr2
  have HB := Lib.hid hb2
  clear hr2 hb2
  by_cases h0 : m = 0
  · subst h0
    have hp : fuse k s = (0, { s with fuse := k }) := by unfold fuse; rw [if_pos hm.symm]
    have HP := Lib.hid hp
    clear hp hm
    go_wp2_with fail
    go_ret
    show MethPost ρ w bd (fuse k s) _ _
    rw [HP.out]
    have h2 := HR.out
    refine ⟨rfl, ρ, ?_⟩
    rw [setCell_eq w2 bd 2 _ _ _ _ h2.hd]
    exact ⟨(h2.own s.quota k s.off).rep, (Fr.of_below HB.out).trans (Fr.setBlock h2.rd _)⟩
  · have hp : fuse k s = (m, s) := by unfold fuse; rw [if_neg (by rw [← hm]; exact h0), ← hm]
    have hne : (m == 0) = false := by simpa using h0
    have HP := Lib.hid hp
    clear hp hm h0
    go_wp2_with fail
    go_ret
    show MethPost ρ w bd (fuse k s) _ _
    rw [HP.out]
    exact ⟨rfl, ρ, HR.out.rep, Fr.of_below HB.out⟩

/-- Four questions: is the disk there, may it be, is there such a file, does the power hold? -/
theorem first_wtb {ρ : Nat → Option Role} {w : World} {bd : Nat} {s : St} {bm : Nat} {blk : Nm → Nat} {dv : Nm → Value} (h : RepX ρ w bd s bm blk dv) (hg : Fine s) {a1 a2 b1 b2 : Addr} {n : ByteArray} (hn : n.size ≤ maxLen) {b : Bool} {z : Int}
    (k1 : w.cell? b1 = some (.bool b)) (k2 : w.cell? b2 = some (.int .i64 z))
    (h1 : w.cell? a1 = some (.string n)) (h2 : w.cell? a2 = some (.pointer (some ⟨bd, 0, none⟩))) {bs : Nat} (hρ : ρ bs = none)
    (hb : w.heap[bs]? = some (.cells #[.func (.func 44) #[.pointer (some ⟨bd, 0, none⟩)] #[], .func (.func 69) #[] #[.pointer (some b1), .pointer (some b2)], .func (.func 61) #[] #[.pointer (some a1), .pointer (some a2)], .func (.func 52) #[.pointer (some ⟨bd, 0, none⟩)] #[]] 72 (0, 0)))
    {l : List Int} (hl : l = [answers s, if b then z else 0, there n.data.toList s]) :
    Calls Tryz.prog 43 #[.slice (some ⟨bs, 0, none⟩) 4 4] w (FirstPost (AskedQ ρ w bd s bm blk dv l)) := by
  subst hl
  have hbs := (Array.getElem?_eq_some_iff.1 hb).1
  refine first_calls bs [.func (.func 44) #[.pointer (some ⟨bd, 0, none⟩)] #[], .func (.func 69) #[] #[.pointer (some b1), .pointer (some b2)], .func (.func 61) #[] #[.pointer (some a1), .pointer (some a2)], .func (.func 52) #[.pointer (some ⟨bd, 0, none⟩)] #[]] _ w hb (by simp) ?_
  refine asks_cons (ask_answers h) (Below.refl _ _) hbs (fun e0 W1 b1 => ?_) (fun e0 W1 b1 => Proofs.YtjlchphbkmaacaaGreatDoor.asked_err h b1 e0 (by simp [first, e0]))
  refine asks_cons (ask_wrong k1 k2 (cell_lt k1) (cell_lt k2)) b1 hbs (fun e1 W2 b2 => ?_) (fun e1 W2 b2 => Proofs.YtjlchphbkmaacaaGreatDoor.asked_err h b2 e1 (by simp [first, e0, e1]))
  refine asks_cons (ask_there h hn h1 h2 (cell_lt h1) (cell_lt h2)) b2 hbs (fun e2 W3 b3 => ?_) (fun e2 W3 b3 => Proofs.YtjlchphbkmaacaaGreatDoor.asked_err h b3 e2 (by simp [first, e0, e1, e2]))
  exact asks_burns h hg b3 hbs hρ (by simp [first, e0, e1, e2])

theorem wtb_get {n : Nm} {s : St} {z : Int} {r : List Int} (h : first (answers s :: z :: there n s :: r) = 0) : z = 0 ∧ ∃ f, get n s.F = some f ∧ may n = true := by
  have h1 : answers s = 0 := by
    unfold first at h
    split at h
    · assumption
    · contradiction
  have h2 : z = 0 := by
    unfold first first at h
    rw [if_pos h1] at h
    split at h
    · assumption
    · contradiction
  refine ⟨h2, there_get (r := r) ?_⟩
  unfold first first at h
  rw [if_pos h1, if_pos h2] at h
  unfold first
  rw [if_pos h1]
  exact h

set_option maxRecDepth 100000 in
set_option maxHeartbeats 1000000 in
theorem rename_any {ρ : Nat → Option Role} {w : World} {bd : Nat} {s : St} {bm : Nat} {blk : Nm → Nat} {dv : Nm → Value} (h : RepX ρ w bd s bm blk dv) (hg : Fine s) (o n : ByteArray) (ho : o.size ≤ maxLen) (hn : n.size ≤ maxLen) :
    Calls Tryz.prog 27 #[.pointer (some ⟨bd, 0, none⟩), .string o, .string n] w (MethPost ρ w bd (rename o.data.toList n.data.toList s)) := by
  have hmf : ∀ (fn : Fn) (first cap : Array Value) (w : World), (Instr.makeFunc fn first cap).run Tryz.prog w = .ok (.func fn first cap) w := fun _ _ _ _ => rfl
  have hnot : ∀ (x : Bool) (w : World), (Op.unary .not (.bool x)).run Tryz.prog w = .ok (.bool (!x)) w := fun _ _ => rfl
  go_enter Tryz.func27, Tryz.ntmps27
  go_wp2_with fail
  refine (may_any n w hn).mono ?_
  rintro e w0 ⟨rfl, hb0⟩
  have h0 := h.below hb0
  have HB0 := Lib.hid hb0
  clear hb0
  generalize hM : Dk.may n.data.toList = M at *
  have HM := Lib.hid hM
  clear hM
  go_wp2_with fail
  refine (wrong_any (!M) 1 w0).mono ?_
  rintro e w1 ⟨rfl, rfl⟩
  go_wp2_with fail
  refine (there_any _ o _ ⟨_, rfl⟩).mono ?_
  rintro e w1 ⟨rfl, rfl⟩
  go_wp2_with fail
  have hb := allocs_below [Obj.cells #[Value.bool !M] 4, Obj.cells #[Value.int .i64 1] 25, Obj.cells #[Value.pointer (some { block := bd, off := 0 })] 24, Obj.cells #[Value.string o] 9,
    Obj.cells #[.func (.func 44) #[.pointer (some ⟨bd, 0, none⟩)] #[], .func (.func 69) #[] #[.pointer (some ⟨w0.heap.size, 0, none⟩), .pointer (some ⟨w0.heap.size + 1, 0, none⟩)], .func (.func 61) #[] #[.pointer (some ⟨w0.heap.size + 3, 0, none⟩), .pointer (some ⟨w0.heap.size + 2, 0, none⟩)], .func (.func 52) #[.pointer (some ⟨bd, 0, none⟩)] #[]] 72 (0, 0)] w0
  have hat := allocs_at [Obj.cells #[Value.bool !M] 4, Obj.cells #[Value.int .i64 1] 25, Obj.cells #[Value.pointer (some { block := bd, off := 0 })] 24, Obj.cells #[Value.string o] 9,
    Obj.cells #[.func (.func 44) #[.pointer (some ⟨bd, 0, none⟩)] #[], .func (.func 69) #[] #[.pointer (some ⟨w0.heap.size, 0, none⟩), .pointer (some ⟨w0.heap.size + 1, 0, none⟩)], .func (.func 61) #[] #[.pointer (some ⟨w0.heap.size + 3, 0, none⟩), .pointer (some ⟨w0.heap.size + 2, 0, none⟩)], .func (.func 52) #[.pointer (some ⟨bd, 0, none⟩)] #[]] 72 (0, 0)] w0
  refine (first_wtb (b := !M) (z := 1) (l := [answers s, if Dk.may n.data.toList then 0 else 1, there o.data.toList s]) (b1 := ⟨w0.heap.size, 0, none⟩) (b2 := ⟨w0.heap.size + 1, 0, none⟩) (a1 := ⟨w0.heap.size + 3, 0, none⟩) (a2 := ⟨w0.heap.size + 2, 0, none⟩) (bs := w0.heap.size + 4) (h0.below hb) hg ho (cell_of_block (i := 0) (hat 0 _ rfl)) (cell_of_block (i := 0) (hat 1 _ rfl)) (cell_of_block (i := 0) (hat 3 _ rfl)) (cell_of_block (i := 0) (hat 2 _ rfl)) (h0.fresh (by omega)) (hat 4 _ rfl) (by rw [HM.out]; cases M <;> rfl)).mono ?_
  rintro e w2 ⟨m, rfl, hfr, hcase⟩
  have hfr2 : Fr ρ ρ w w2 := ((Fr.of_below HB0.out).trans (Fr.of_below hb)).trans hfr
  clear hb hat hfr h0
  have HF := Lib.hid hfr2
  clear hfr2
  rcases hcase with ⟨hl, rfl, hr⟩ | ⟨hl, h0, rfl, hr⟩ | ⟨hl, h0, rfl, hr⟩
  · have hne : (first [answers s, if Dk.may n.data.toList then 0 else 1, there o.data.toList s] == 0) = false := by simpa using hl
    have HP := Lib.hid (Dk.asked_err (k := fun s => if o.data.toList = n.data.toList then s else { s with F := del o.data.toList (put n.data.toList ((get o.data.toList s.F).getD ⟨[], 0⟩) s.F) }) (s := s) hl)
    generalize hE : first [answers s, if Dk.may n.data.toList then 0 else 1, there o.data.toList s] = E at *
    have HR := Lib.hid hr
    clear hr hE hl
    go_wp2_with fail
    go_ret
    show MethPost ρ w bd (rename o.data.toList n.data.toList s) _ _
    unfold rename
    rw [HP.out]
    exact ⟨rfl, ρ, HR.out.rep, HF.out⟩
  · have HP := Lib.hid (Dk.asked_off (k := fun s => if o.data.toList = n.data.toList then s else { s with F := del o.data.toList (put n.data.toList ((get o.data.toList s.F).getD ⟨[], 0⟩) s.F) }) (s := s) hl h0)
    have HR := Lib.hid hr
    clear hr h0 hl
    go_wp2_with fail
    go_ret
    show MethPost ρ w bd (rename o.data.toList n.data.toList s) _ _
    unfold rename
    rw [HP.out]
    exact ⟨rfl, ρ, HR.out.rep, HF.out⟩
  · have HP := Lib.hid (Dk.asked_ok (k := fun s => if o.data.toList = n.data.toList then s else { s with F := del o.data.toList (put n.data.toList ((get o.data.toList s.F).getD ⟨[], 0⟩) s.F) }) (s := s) hl h0)
    obtain ⟨_, f, hf, _⟩ := wtb_get hl
    have hf' : get o.data.toList (Dk.less s).F = some f := hf
    by_cases hon : o = n
    · have hne : (o.toList == n.toList) = true := by rw [hon]; exact beq_self_eq_true _
      have HR := Lib.hid hr
      have HO := Lib.hid hon
      clear hr hl h0 hf hf' hon
      go_wp2_with fail
      go_ret
      show MethPost ρ w bd (rename o.data.toList n.data.toList s) _ _
      unfold rename
      rw [HP.out, if_pos (by rw [HO.out])]
      exact ⟨rfl, ρ, HR.out.rep, HF.out⟩
    · have hdn : o.data.toList ≠ n.data.toList := fun e => hon (by
        cases o; cases n
        congr 1
        exact Array.toList_inj.1 e)
      have hne : (o.toList == n.toList) = false := by
        rw [ByteArray.toList_eq, ByteArray.toList_eq]
        exact beq_eq_false_iff_ne.2 hdn
      have hrd := hr.below (Below.refl w2.heap.size w2).drew
      have c0 := hr.c0
      have gl := hrd.look o ho
      rw [hf'] at gl
      simp only [Option.isSome_some, if_true] at gl
      obtain ⟨w3, hrun, hm3, ht3⟩ := hrd.hm.store (t := 56) (e := 76) string_law Tryz.underlying56 (by have := hg.files; unfold maxLen; show s.F.length < _; omega) (WideMaps.keyOf_string_mk Tryz.underlying9 hn) (val := .pointer (some ⟨blk o.data.toList, 0, none⟩)) (d := .held (blk o.data.toList)) (ps := []) rfl
      obtain ⟨w4, hrun4, hm4, ht4⟩ := hm3.drop (t := 56) (e := 76) string_law Tryz.underlying56 (WideMaps.keyOf_string_mk Tryz.underlying9 ho) 0
      have c3 : w3.cell? ⟨bd, 0, none⟩ = some (.map (some bm)) := by
        have h1 := ht3.grown.block bd hrd.bdlt (fun e => hrd.ne_map (Option.some.inj e).symm)
        rw [show w3.cell? ⟨bd, 0, none⟩ = w2.drew.cell? ⟨bd, 0, none⟩ from by unfold World.cell?; rw [h1]]
        exact c0
      have HR := Lib.hid hrd
      have HO := Lib.hid hdn
      have HM4 := Lib.hid hm4
      have HT3 := Lib.hid ht3
      have HT4 := Lib.hid ht4
      have HX := Lib.hid hf'
      clear hr hrd hl h0 hf hf' hon hdn hm3 ht3 hm4 ht4
      go_wp2_with fail
      go_region
      go_wp2_with fail
      go_ret
      show MethPost ρ w bd (rename o.data.toList n.data.toList s) _ _
      unfold rename
      rw [HP.out, if_neg HO.out, HX.out]
      have hm4 := HM4.out
      rw [dat_put (f := f), dat_del] at hm4
      obtain ⟨ρ', h1, h2⟩ := HR.out.rename HO.out HX.out (tight_dat hm4) (Stay.of_grown (HT3.out.trans HT4.out).grown)
      exact ⟨rfl, ρ', h1.rep, (HF.out.trans (Fr.of_below (Below.refl w2.heap.size w2).drew)).trans h2⟩
end Go.Proofs.YtjlchphbkmaacaaGreatDoor
