/- Fuse, Sync, Remove. -/
import Derived.Test.YtjlchphbkmaacaaGreatDoorEa
set_option linter.unusedVariables false
set_option linter.unusedSimpArgs false
namespace Go.Proofs.YtjlchphbkmaacaaGreatDoor
open Go.RowKit Go.MapKept Go.ChangeMaps Go.Maps
attribute [local go_sem ↓] Go.wp_at_zero Go.wp_at_succ
open Dk

/-- Sizes: what is found in a disk is small. -/
theorem Dk.Fine.size_le {s : St} (hg : Fine s) {n : Nm} {f : Fi} (hf : get n s.F = some f) : f.b.length ≤ 4194304 := by
  have h1 := hg.bytes
  obtain ⟨h3, _⟩ := total_del hg.rise hf
  omega
theorem Dk.Fine.less {s : St} (hg : Fine s) : Fine (less s) := by
  have h0 := hg.f0
  have h1 := hg.f1
  refine { hg with f0 := ?_, f1 := ?_ }
  · show -1 ≤ (if 0 < s.fuse then s.fuse - 1 else s.fuse)
    split <;> omega
  · show (if 0 < s.fuse then s.fuse - 1 else s.fuse) ≤ _
    split <;> omega
theorem Dk.asked_err {l : List Int} {s : St} {k : St → St} (h : first l ≠ 0) : asked l s k = (first l, s) := if_neg h
theorem Dk.asked_off {l : List Int} {s : St} {k : St → St} (h : first l = 0) (h0 : s.fuse = 0) : asked l s k = (8, burnt s) := by rw [asked, if_pos h, burn, if_pos h0]
theorem Dk.asked_ok {l : List Int} {s : St} {k : St → St} (h : first l = 0) (h0 : s.fuse ≠ 0) : asked l s k = (0, k (Dk.less s)) := by rw [asked, if_pos h, burn, if_neg h0]

theorem Dk.Stay.of_grown {w w' : World} {b : Nat} (h : w.grownBy w' (some b)) : Stay w w' fun k => k = b :=
  ⟨h.os, h.tape, h.output, h.size, fun k hk hne => h.block k hk (fun e => hne (Option.some.inj e))⟩
theorem Dk.tight_dat {w : World} {bm n : Nat} {blk : Nm → Nat} {F : List (Nm × Fi)} (h : w.ownsMap Tryz.prog 9 Rp bm n (dat blk F)) : w.ownsMap Tryz.prog 9 Rp bm F.length (dat blk F) := by
  have := ownsMap_tight h
  rwa [dat_size] at this

/-- Three questions: is the disk there, is there such a file, does the power hold? -/
theorem first_burn {ρ : Nat → Option Role} {w : World} {bd : Nat} {s : St} {bm : Nat} {blk : Nm → Nat} {dv : Nm → Value} (h : RepX ρ w bd s bm blk dv) (hg : Fine s) {a1 a2 : Addr} {n : ByteArray} (hn : n.size ≤ maxLen)
    (h1 : w.cell? a1 = some (.string n)) (h2 : w.cell? a2 = some (.pointer (some ⟨bd, 0, none⟩))) {bs : Nat} (hρ : ρ bs = none)
    (hb : w.heap[bs]? = some (.cells #[.func (.func 44) #[.pointer (some ⟨bd, 0, none⟩)] #[], .func (.func 61) #[] #[.pointer (some a1), .pointer (some a2)], .func (.func 52) #[.pointer (some ⟨bd, 0, none⟩)] #[]] 72 (0, 0))) :
    Calls Tryz.prog 43 #[.slice (some ⟨bs, 0, none⟩) 3 3] w (FirstPost (AskedQ ρ w bd s bm blk dv [answers s, there n.data.toList s])) := by
  have hbs := (Array.getElem?_eq_some_iff.1 hb).1
  refine first_calls bs [.func (.func 44) #[.pointer (some ⟨bd, 0, none⟩)] #[], .func (.func 61) #[] #[.pointer (some a1), .pointer (some a2)], .func (.func 52) #[.pointer (some ⟨bd, 0, none⟩)] #[]] _ w hb (by simp) ?_
  refine asks_cons (ask_answers h) (Below.refl _ _) hbs (fun e0 W1 b1 => ?_) (fun e0 W1 b1 => Proofs.YtjlchphbkmaacaaGreatDoor.asked_err h b1 e0 (by simp [first, e0]))
  refine asks_cons (ask_there h hn h1 h2 (cell_lt h1) (cell_lt h2)) b1 hbs (fun e1 W2 b2 => ?_) (fun e1 W2 b2 => Proofs.YtjlchphbkmaacaaGreatDoor.asked_err h b2 e1 (by simp [first, e0, e1]))
  exact asks_burns h hg b2 hbs hρ (by simp [first, e0, e1])

theorem there_get {n : Nm} {s : St} {r : List Int} (h : first (answers s :: there n s :: r) = 0) : ∃ f, get n s.F = some f ∧ may n = true := by
  have h1 : there n s = 0 := by
    unfold first first at h
    split at h
    · split at h
      · assumption
      · assumption
    · contradiction
  unfold there at h1
  split at h1
  · rename_i hm
    split at h1
    · rename_i hs
      obtain ⟨f, hf⟩ := Option.isSome_iff_exists.1 hs
      exact ⟨f, hf, hm⟩
    · cases h1
  · cases h1

set_option maxRecDepth 100000 in
set_option maxHeartbeats 1000000 in
theorem sync_any {ρ : Nat → Option Role} {w : World} {bd : Nat} {s : St} {bm : Nat} {blk : Nm → Nat} {dv : Nm → Value} (h : RepX ρ w bd s bm blk dv) (hg : Fine s) (n : ByteArray) (hn : n.size ≤ maxLen) :
    Calls Tryz.prog 19 #[.pointer (some ⟨bd, 0, none⟩), .string n] w (MethPost ρ w bd (sync n.data.toList s)) := by
  have hmf : ∀ (fn : Fn) (first cap : Array Value) (w : World), (Instr.makeFunc fn first cap).run Tryz.prog w = .ok (.func fn first cap) w := fun _ _ _ _ => rfl
  go_enter Tryz.func19, Tryz.ntmps19
  go_wp2_with fail
  refine (there_any _ n w ⟨_, rfl⟩).mono ?_
  rintro e w1 ⟨rfl, rfl⟩
  go_wp2_with fail
  have hb3 := below_three w (Obj.cells #[Value.pointer (some { block := bd, off := 0 })] 24) (Obj.cells #[Value.string n] 9) (Obj.cells #[.func (.func 44) #[.pointer (some ⟨bd, 0, none⟩)] #[], .func (.func 61) #[] #[.pointer (some ⟨w.heap.size + 1, 0, none⟩), .pointer (some ⟨w.heap.size, 0, none⟩)], .func (.func 52) #[.pointer (some ⟨bd, 0, none⟩)] #[]] 72 (0, 0))
  obtain ⟨q1, q2, q3⟩ := heap_three w (Obj.cells #[Value.pointer (some { block := bd, off := 0 })] 24) (Obj.cells #[Value.string n] 9) (Obj.cells #[.func (.func 44) #[.pointer (some ⟨bd, 0, none⟩)] #[], .func (.func 61) #[] #[.pointer (some ⟨w.heap.size + 1, 0, none⟩), .pointer (some ⟨w.heap.size, 0, none⟩)], .func (.func 52) #[.pointer (some ⟨bd, 0, none⟩)] #[]] 72 (0, 0))
  refine (first_burn (h.below hb3) hg hn (by rw [cell_of_block q2]; rfl) (by rw [cell_of_block q1]; rfl) (h.fresh (by omega)) q3).mono ?_
  rintro e w2 ⟨m, rfl, hfr, hcase⟩
  have hfr2 : Fr ρ ρ w w2 := (Fr.of_below hb3).trans hfr
  clear hb3 q1 q2 q3 hfr
  have HF := Lib.hid hfr2
  clear hfr2
  rcases hcase with ⟨hl, rfl, hr⟩ | ⟨hl, h0, rfl, hr⟩ | ⟨hl, h0, rfl, hr⟩
  · have hne : (first [answers s, there n.data.toList s] == 0) = false := by simpa using hl
    have HP := Lib.hid (Dk.asked_err (k := fun s => { s with F := setF n.data.toList ⟨((get n.data.toList s.F).getD ⟨[], 0⟩).b, ((get n.data.toList s.F).getD ⟨[], 0⟩).b.length⟩ s.F }) (s := s) hl)
    generalize hE : first [answers s, there n.data.toList s] = E at *
    have HR := Lib.hid hr
    clear hr hE hl
    go_wp2_with fail
    go_ret
    show MethPost ρ w bd (sync n.data.toList s) _ _
    unfold sync
    rw [HP.out]
    exact ⟨rfl, ρ, HR.out.rep, HF.out⟩
  · have HP := Lib.hid (Dk.asked_off (k := fun s => { s with F := setF n.data.toList ⟨((get n.data.toList s.F).getD ⟨[], 0⟩).b, ((get n.data.toList s.F).getD ⟨[], 0⟩).b.length⟩ s.F }) (s := s) hl h0)
    have HR := Lib.hid hr
    clear hr h0 hl
    go_wp2_with fail
    go_ret
    show MethPost ρ w bd (sync n.data.toList s) _ _
    unfold sync
    rw [HP.out]
    exact ⟨rfl, ρ, HR.out.rep, HF.out⟩
  · have HP := Lib.hid (Dk.asked_ok (k := fun s => { s with F := setF n.data.toList ⟨((get n.data.toList s.F).getD ⟨[], 0⟩).b, ((get n.data.toList s.F).getD ⟨[], 0⟩).b.length⟩ s.F }) (s := s) hl h0)
    obtain ⟨f, hf, _⟩ := there_get hl
    have hf' : get n.data.toList (Dk.less s).F = some f := hf
    have hx := get_mem hf'
    have c0 := hr.c0
    have gl : (Instr.lookup 56 (.map (some bm)) (.string n) false).run Tryz.prog w2.drew = .ok (.pointer (some ⟨blk n.data.toList, 0, none⟩)) w2.drew := by
      have := (hr.below (Below.refl w2.heap.size w2).drew).look n hn
      rw [hf'] at this
      exact this
    have c4 := hr.g0 hx
    have c5 := hr.g1 hx
    have f5 : w2.frozen? ⟨blk n.data.toList, 1, none⟩ = false := frozen_of_block (hr.hf _ hx)
    obtain ⟨p, c, hdv, _⟩ := hr.slice hx
    rw [hdv] at c4
    simp only at c4 c5
    have hbig := hg.size_le hf
    have HR := Lib.hid hr
    have HX := Lib.hid hf'
    have HV := Lib.hid hdv
    generalize hgb : blk n.data.toList = g at *
    have HG := Lib.hid hgb
    clear hr hdv hf hf' hx hl hgb h0
    go_wp2_with fail
    go_region
    go_wp2_with fail
    go_ret
    show MethPost ρ w bd (sync n.data.toList s) _ _
    unfold sync
    rw [HP.out, HX.out]
    have hr := HR.out
    have hx := get_mem HX.out
    obtain rfl := HG.out
    have hblk := hr.hf _ hx
    simp only at hblk
    obtain ⟨ρ', hr', hf'⟩ := hr.setFile (w' := (w2.setCell ⟨blk n.data.toList, 1, none⟩ (.int .i64 f.b.length)).drew) HX.out (dv n.data.toList) ⟨f.b, f.b.length⟩
      (by
        show (w2.setCell ⟨blk n.data.toList, 1, none⟩ (.int .i64 f.b.length)).heap[blk n.data.toList]? = _
        rw [setCell_eq w2 _ 1 _ _ _ _ hblk, heap_setBlock (Array.getElem?_eq_some_iff.1 hblk).1]
        rfl)
      (by
        refine ownsRow_block (w := w2) (hr.hv _ hx) fun g hg => ?_
        show (w2.setCell ⟨blk n.data.toList, 1, none⟩ (.int .i64 f.b.length)).heap[g]? = _
        rw [setCell_eq w2 _ 1 _ _ _ _ hblk, Dk.setBlock_other]
        rintro rfl
        have h1 := hr.rv _ hx _ hg
        rw [hr.rf _ hx] at h1
        cases h1)
      (fun g hg => .inl hg)
      ⟨rfl, rfl, rfl, by
        show w2.heap.size ≤ (w2.setCell ⟨blk n.data.toList, 1, none⟩ (.int .i64 f.b.length)).heap.size
        rw [setCell_eq w2 _ 1 _ _ _ _ hblk, Dk.setBlock_size]
        exact Nat.le_refl _, fun b hb hne => by
        show (w2.setCell ⟨blk n.data.toList, 1, none⟩ (.int .i64 f.b.length)).heap[b]? = _
        rw [setCell_eq w2 _ 1 _ _ _ _ hblk, Dk.setBlock_other]
        exact fun e => hne (.inl e)⟩
    exact ⟨rfl, ρ', hr'.rep, HF.out.trans hf'⟩

set_option maxRecDepth 100000 in
set_option maxHeartbeats 1000000 in
theorem remove_any {ρ : Nat → Option Role} {w : World} {bd : Nat} {s : St} {bm : Nat} {blk : Nm → Nat} {dv : Nm → Value} (h : RepX ρ w bd s bm blk dv) (hg : Fine s) (n : ByteArray) (hn : n.size ≤ maxLen) :
    Calls Tryz.prog 29 #[.pointer (some ⟨bd, 0, none⟩), .string n] w (MethPost ρ w bd (remove n.data.toList s)) := by
  have hmf : ∀ (fn : Fn) (first cap : Array Value) (w : World), (Instr.makeFunc fn first cap).run Tryz.prog w = .ok (.func fn first cap) w := fun _ _ _ _ => rfl
  go_enter Tryz.func29, Tryz.ntmps29
  go_wp2_with fail
  refine (there_any _ n w ⟨_, rfl⟩).mono ?_
  rintro e w1 ⟨rfl, rfl⟩
  go_wp2_with fail
  have hb3 := below_three w (Obj.cells #[Value.pointer (some { block := bd, off := 0 })] 24) (Obj.cells #[Value.string n] 9) (Obj.cells #[.func (.func 44) #[.pointer (some ⟨bd, 0, none⟩)] #[], .func (.func 61) #[] #[.pointer (some ⟨w.heap.size + 1, 0, none⟩), .pointer (some ⟨w.heap.size, 0, none⟩)], .func (.func 52) #[.pointer (some ⟨bd, 0, none⟩)] #[]] 72 (0, 0))
  obtain ⟨q1, q2, q3⟩ := heap_three w (Obj.cells #[Value.pointer (some { block := bd, off := 0 })] 24) (Obj.cells #[Value.string n] 9) (Obj.cells #[.func (.func 44) #[.pointer (some ⟨bd, 0, none⟩)] #[], .func (.func 61) #[] #[.pointer (some ⟨w.heap.size + 1, 0, none⟩), .pointer (some ⟨w.heap.size, 0, none⟩)], .func (.func 52) #[.pointer (some ⟨bd, 0, none⟩)] #[]] 72 (0, 0))
  refine (first_burn (h.below hb3) hg hn (by rw [cell_of_block q2]; rfl) (by rw [cell_of_block q1]; rfl) (h.fresh (by omega)) q3).mono ?_
  rintro e w2 ⟨m, rfl, hfr, hcase⟩
  have hfr2 : Fr ρ ρ w w2 := (Fr.of_below hb3).trans hfr
  clear hb3 q1 q2 q3 hfr
  have HF := Lib.hid hfr2
  clear hfr2
  rcases hcase with ⟨hl, rfl, hr⟩ | ⟨hl, h0, rfl, hr⟩ | ⟨hl, h0, rfl, hr⟩
  · have hne : (first [answers s, there n.data.toList s] == 0) = false := by simpa using hl
    have HP := Lib.hid (Dk.asked_err (k := fun s => { s with F := del n.data.toList s.F }) (s := s) hl)
    generalize hE : first [answers s, there n.data.toList s] = E at *
    have HR := Lib.hid hr
    clear hr hE hl
    go_wp2_with fail
    go_ret
    show MethPost ρ w bd (remove n.data.toList s) _ _
    unfold remove
    rw [HP.out]
    exact ⟨rfl, ρ, HR.out.rep, HF.out⟩
  · have HP := Lib.hid (Dk.asked_off (k := fun s => { s with F := del n.data.toList s.F }) (s := s) hl h0)
    have HR := Lib.hid hr
    clear hr h0 hl
    go_wp2_with fail
    go_ret
    show MethPost ρ w bd (remove n.data.toList s) _ _
    unfold remove
    rw [HP.out]
    exact ⟨rfl, ρ, HR.out.rep, HF.out⟩
  · have HP := Lib.hid (Dk.asked_ok (k := fun s => { s with F := del n.data.toList s.F }) (s := s) hl h0)
    have c0 := hr.c0
    have HR := Lib.hid hr
    have hdel := fun ty => hr.hm.drop (t := 56) (e := 76) string_law Tryz.underlying56 (WideMaps.keyOf_string_mk Tryz.underlying9 hn) ty
    obtain ⟨w3, hrun, hm3, ht3⟩ := hdel 0
    have HM := Lib.hid hm3
    have HT := Lib.hid ht3
    clear hr hl h0 hm3 ht3 hdel
    go_wp2_with fail
    go_ret
    show MethPost ρ w bd (remove n.data.toList s) _ _
    unfold remove
    rw [HP.out]
    have hm3 := HM.out
    rw [dat_del] at hm3
    obtain ⟨h1, h2⟩ := HR.out.remove n.data.toList (tight_dat hm3) (Stay.of_grown HT.out.grown)
    exact ⟨rfl, ρ, h1.rep, HF.out.trans h2⟩
end Go.Proofs.YtjlchphbkmaacaaGreatDoor
