/- Read, Size, Loose, Fuse, Quota. -/
import Derived.Test.YtjlchphbkmaacaaGreatDoorDx
set_option linter.unusedVariables false
set_option linter.unusedSimpArgs false
namespace Go.Proofs.YtjlchphbkmaacaaGreatDoor
open Go.RowKit Go.MapKept Go.ChangeMaps Go.Maps
attribute [local go_sem ↓] Go.wp_at_zero Go.wp_at_succ
open Dk

theorem heap_three (w : World) (o1 o2 o3 : Obj) : (((w.alloc o1).alloc o2).alloc o3).heap[w.heap.size]? = some o1 ∧ (((w.alloc o1).alloc o2).alloc o3).heap[w.heap.size + 1]? = some o2 ∧ (((w.alloc o1).alloc o2).alloc o3).heap[w.heap.size + 1 + 1]? = some o3 := by
  refine ⟨?_, ?_, ?_⟩
  · show (((w.heap.push o1).push o2).push o3)[w.heap.size]? = _
    rw [Array.getElem?_push, if_neg (by simp; omega), Array.getElem?_push, if_neg (by simp), Array.getElem?_push, if_pos rfl]
  · show (((w.heap.push o1).push o2).push o3)[w.heap.size + 1]? = _
    rw [Array.getElem?_push, if_neg (by simp), Array.getElem?_push, if_pos (by simp)]
  · show (((w.heap.push o1).push o2).push o3)[w.heap.size + 1 + 1]? = _
    rw [Array.getElem?_push, if_pos (by simp)]
theorem below_three (w : World) (o1 o2 o3 : Obj) : Below w.heap.size w (((w.alloc o1).alloc o2).alloc o3) := bel_alloc (bel_alloc (bel_alloc (Below.refl _ _) _) _) _

/-- What two questions come to: is the disk there, is there such a file? -/
theorem first_read {ρ : Nat → Option Role} {w : World} {bd : Nat} {s : St} {bm : Nat} {blk : Nm → Nat} {dv : Nm → Value} (h : RepX ρ w bd s bm blk dv) {a1 a2 : Addr} {n : ByteArray} (hn : n.size ≤ maxLen)
    (h1 : w.cell? a1 = some (.string n)) (h2 : w.cell? a2 = some (.pointer (some ⟨bd, 0, none⟩))) {bs : Nat}
    (hb : w.heap[bs]? = some (.cells #[.func (.func 44) #[.pointer (some ⟨bd, 0, none⟩)] #[], .func (.func 61) #[] #[.pointer (some a1), .pointer (some a2)]] 72 (0, 0))) :
    Calls Tryz.prog 43 #[.slice (some ⟨bs, 0, none⟩) 2 2] w fun e w' => e = .returned (.int .i64 (readE n.data.toList s)) ∧ Below w.heap.size w w' := by
  have hbs := (Array.getElem?_eq_some_iff.1 hb).1
  have hA : Asks Tryz.prog bs [.func (.func 44) #[.pointer (some ⟨bd, 0, none⟩)] #[], .func (.func 61) #[] #[.pointer (some a1), .pointer (some a2)]] w
      (fun m W' => m = readE n.data.toList s ∧ Below w.heap.size w W') := by
    refine asks_cons (ask_answers h) (Below.refl _ _) hbs (fun e0 W1 b1 => ?_) (fun e0 W1 b1 => ⟨?_, b1⟩)
    · refine asks_cons (ask_there h hn h1 h2 (cell_lt h1) (cell_lt h2)) b1 hbs (fun e1 W2 b2 => ⟨?_, b2⟩) (fun e1 W2 b2 => ⟨?_, b2⟩)
      · simp [readE, first, e0, e1]
      · simp [readE, first, e0, e1]
    · simp [readE, first, e0]
  refine (first_calls bs _ _ w hb (by simp) hA).mono ?_
  rintro e w' ⟨m, rfl, rfl, hb'⟩
  exact ⟨rfl, hb'⟩

def ReadPost (w : World) (s : St) (n : Nm) (e : Ending) (w' : World) : Prop :=
  ∃ v, e = .returned (.tuple #[v, .int .i64 (readE n s)]) ∧ w'.ownsRow w.heap.size 5 1 v (readB n s).length ((readB n s).map encU8) ∧ Below w.heap.size w w'

theorem read_there {n : Nm} {s : St} (h : readE n s = 0) : ∃ f, get n s.F = some f ∧ readB n s = f.b := by
  have hb : readB n s = ((get n s.F).getD ⟨[], 0⟩).b := by simp [readB, h]
  have h1 : there n s = 0 := by
    unfold readE first first first at h
    split at h
    · split at h
      · assumption
      · assumption
    · contradiction
  unfold there at h1
  split at h1
  · split at h1
    · rename_i hs
      obtain ⟨f, hf⟩ := Option.isSome_iff_exists.1 hs
      exact ⟨f, hf, by rw [hb, hf]; rfl⟩
    · cases h1
  · cases h1

set_option maxRecDepth 100000 in
set_option maxHeartbeats 1000000 in
theorem read_any {ρ : Nat → Option Role} {w : World} {bd : Nat} {s : St} {bm : Nat} {blk : Nm → Nat} {dv : Nm → Value} (h : RepX ρ w bd s bm blk dv) (hg : Fine s) (n : ByteArray) (hn : n.size ≤ maxLen) :
    Calls Tryz.prog 10 #[.pointer (some ⟨bd, 0, none⟩), .string n] w (ReadPost w s n.data.toList) := by
  have hmf : ∀ (fn : Fn) (first cap : Array Value) (w : World), (Instr.makeFunc fn first cap).run Tryz.prog w = .ok (.func fn first cap) w := fun _ _ _ _ => rfl
  go_enter Tryz.func10, Tryz.ntmps10
  go_wp2_with fail
  refine (there_any _ n w ⟨_, rfl⟩).mono ?_
  rintro e w1 ⟨rfl, rfl⟩
  go_wp2_with fail
  have hb3 := below_three w (Obj.cells #[Value.pointer (some { block := bd, off := 0 })] 24) (Obj.cells #[Value.string n] 9) (Obj.cells #[.func (.func 44) #[.pointer (some ⟨bd, 0, none⟩)] #[], .func (.func 61) #[] #[.pointer (some ⟨w.heap.size + 1, 0, none⟩), .pointer (some ⟨w.heap.size, 0, none⟩)]] 72 (0, 0))
  obtain ⟨q1, q2, q3⟩ := heap_three w (Obj.cells #[Value.pointer (some { block := bd, off := 0 })] 24) (Obj.cells #[Value.string n] 9) (Obj.cells #[.func (.func 44) #[.pointer (some ⟨bd, 0, none⟩)] #[], .func (.func 61) #[] #[.pointer (some ⟨w.heap.size + 1, 0, none⟩), .pointer (some ⟨w.heap.size, 0, none⟩)]] 72 (0, 0))
  refine (first_read (h.below hb3) hn (by rw [cell_of_block q2]; rfl) (by rw [cell_of_block q1]; rfl) q3).mono ?_
  rintro e w2 ⟨rfl, hb⟩
  have hb2 : Below w.heap.size w w2 := hb3.trans (hb.mono hb3.size)
  clear hb hb3 q1 q2 q3
  have h2 := h.below hb2
  by_cases hr : readE n.data.toList s = 0
  · obtain ⟨f, hf, hbt⟩ := read_there hr
    have hx := get_mem hf
    have c0 := h2.c0
    have gl := h2.look n hn
    rw [hf] at gl
    simp only [Option.isSome_some, if_true] at gl
    have c4 := h2.g0 hx
    have hrow := h2.hv _ hx
    simp only at c4 hrow
    rw [hr]
    generalize hV : dv n.data.toList = V at *
    have HR := Lib.hid hr
    have HB := Lib.hid hb2
    have HBt := Lib.hid hbt
    have hlen := hrow.1
    have hbig : f.b.length ≤ 4194304 := by
      have h1 := hg.bytes
      obtain ⟨h3, _⟩ := total_del hg.rise hf
      omega
    rcases hrow.2 with ⟨rfl, hz⟩ | ⟨g, cap, cur, rfl, _, hgb, hc1, hc2, hcs, hct⟩
    · have HZ := Lib.hid hz
      clear h2 hrow hf hx hr hb2 hbt hV hz hlen hbig
      go_wp2_with fail
      refine (clone_nil 0 0 w2).mono ?_
      rintro e w3 ⟨rfl, rfl⟩
      go_wp2_with fail
      go_ret2
      refine ⟨.slice none 0 0, by rw [HR.out]; rfl, ?_, HB.out⟩
      rw [HBt.out, HZ.out, List.eq_nil_of_length_eq_zero HZ.out]
      exact World.ownsRow_nil _ _ _ _
    · have hcells : ∀ i, i < f.b.length → w2.cell? ((⟨g, 0, none⟩ : Addr).add i) = some (.int .u8 ((f.b.map fun c => (c.toNat : Int)).getD i 0)) := by
        intro i hi
        have e1 : (⟨g, 0, none⟩ : Addr).add i = ⟨g, i, none⟩ := by
          unfold Addr.add
          split
          · rename_i h0; rw [h0]
          · simp
        rw [e1, cell_of_block hgb]
        have e2 : cur.toList[i]? = (f.b.map encU8)[i]? := by
          rw [← hct, List.getElem?_take, if_pos (by omega)]
        rw [← Array.getElem?_toList, e2]
        simp [hi, encU8, List.getD]
      have HC := Lib.hid hcells
      have HBig := Lib.hid hbig
      clear h2 hrow hf hx hr hb2 hbt hV hlen hcells hbig hgb hcs hct
      go_wp2_with fail
      refine (clone_any ⟨g, 0, none⟩ f.b.length cap (f.b.map fun c => (c.toNat : Int)) w2 (by simp) (by have := HBig.out; omega) HC.out).mono ?_
      rintro e w3 ⟨v, rfl, hrow3, hne, hb3⟩
      have HR3 := Lib.hid hrow3
      have HB3 := Lib.hid hb3
      clear hrow3 hb3 hne
      go_wp2_with fail
      go_ret2
      refine ⟨v, by rw [HR.out]; rfl, ?_, HB.out.trans (HB3.out.mono HB.out.size)⟩
      have := HR3.out
      rw [HBt.out]
      obtain ⟨e1, e2⟩ := this
      have em : (f.b.map fun c => (c.toNat : Int)).map (Value.int .u8) = f.b.map encU8 := by rw [List.map_map]; rfl
      rw [em] at e1 e2
      refine ⟨e1, e2.imp id ?_⟩
      rintro ⟨g, cap, cur, e1, e2, r⟩
      exact ⟨g, cap, cur, e1, Nat.le_trans HB.out.size e2, r⟩
  · have hbt : readB n.data.toList s = [] := by simp [readB, hr]
    have hne : (readE n.data.toList s != 0) = true := by simpa using hr
    generalize hE : readE n.data.toList s = E at *
    have HE := Lib.hid hE
    have HBt := Lib.hid hbt
    have HB := Lib.hid hb2
    clear hE hr hbt hb2 h2
    go_wp2_with fail
    go_ret2
    refine ⟨.slice none 0 0, by rw [HE.out]; rfl, ?_, HB.out⟩
    rw [HBt.out]
    exact World.ownsRow_nil _ _ _ _
end Go.Proofs.YtjlchphbkmaacaaGreatDoor
