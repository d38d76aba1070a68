/- Size, Loose, Quota, Fuse. -/
import Derived.Test.YtjlchphbkmaacaaGreatDoorDy
import Derived.Test.YtjlchphbkmaacaaGreatDoorDz
set_option linter.unusedVariables false
set_option linter.unusedSimpArgs false
namespace Go.Proofs.YtjlchphbkmaacaaGreatDoor
open Go.RowKit Go.MapKept Go.ChangeMaps Go.Maps
attribute [local go_sem ↓] Go.wp_at_zero Go.wp_at_succ
open Dk

/-- What a call leaves: a number, and a disk. -/
def MethPost (ρ : Nat → Option Role) (w : World) (bd : Nat) (r : Int × St) (e : Ending) (w' : World) : Prop :=
  e = .returned (.int .i64 r.1) ∧ ∃ ρ', Rep ρ' w' bd r.2 ∧ Fr ρ ρ' w w'

theorem Dk.RepX.fresh {ρ : Nat → Option Role} {w : World} {bd : Nat} {s : St} {bm : Nat} {blk : Nm → Nat} {dv : Nm → Value} (h : RepX ρ w bd s bm blk dv) {b : Nat} (hb : w.heap.size ≤ b) : ρ b = none := by
  cases hr : ρ b with
  | none => rfl
  | some r => have := h.lt b r hr; omega
theorem Dk.RepX.rep {ρ : Nat → Option Role} {w : World} {bd : Nat} {s : St} {bm : Nat} {blk : Nm → Nat} {dv : Nm → Value} (h : RepX ρ w bd s bm blk dv) : Rep ρ w bd s := ⟨_, _, _, h⟩

def SizePost (w : World) (s : St) (n : Nm) (e : Ending) (w' : World) : Prop := e = .returned (.tuple #[.int .i64 (readB n s).length, .int .i64 (readE n s)]) ∧ Below w.heap.size w w'

theorem own_slice {w : World} {base : Nat} {e : TypeId} {v : Value} {n : Nat} {xs : List Value} (h : w.ownsRow base e 1 v n xs) : ∃ a c, v = .slice a n c := by
  rcases h.2 with ⟨h1, h2⟩ | ⟨g, cap, cur, hv, _⟩
  · exact ⟨none, 0, by rw [h1, h2]⟩
  · exact ⟨_, _, hv⟩

set_option maxHeartbeats 400000 in
theorem size_any {ρ : Nat → Option Role} {w : World} {bd : Nat} {s : St} {bm : Nat} {blk : Nm → Nat} {dv : Nm → Value} (h : RepX ρ w bd s bm blk dv) (hg : Fine s) (n : ByteArray) (hn : n.size ≤ maxLen) :
    Calls Tryz.prog 12 #[.pointer (some ⟨bd, 0, none⟩), .string n] w (SizePost w s n.data.toList) := by
  go_enter Tryz.func12, Tryz.ntmps12
  go_wp2_with fail
  refine (read_any h hg n hn).mono ?_
  rintro e w1 ⟨v, rfl, hrow, hb⟩
  obtain ⟨a, c, rfl⟩ := own_slice hrow
  have HB := Lib.hid hb
  clear hb hrow
  go_wp2_with fail
  go_ret2
  exact ⟨rfl, HB.out⟩

def LoosePost (w : World) (s : St) (n : Nm) (e : Ending) (w' : World) : Prop := e = .returned (.int .i64 (loose n s)) ∧ Below w.heap.size w w'

set_option maxRecDepth 100000 in
set_option maxHeartbeats 1000000 in
theorem loose_any {ρ : Nat → Option Role} {w : World} {bd : Nat} {s : St} {bm : Nat} {blk : Nm → Nat} {dv : Nm → Value} (h : RepX ρ w bd s bm blk dv) (hg : Fine s) (n : ByteArray) (hn : n.size ≤ maxLen) :
    Calls Tryz.prog 13 #[.pointer (some ⟨bd, 0, none⟩), .string n] w (LoosePost w s n.data.toList) := by
  have hmf : ∀ (fn : Fn) (first cap : Array Value) (w : World), (Instr.makeFunc fn first cap).run Tryz.prog w = .ok (.func fn first cap) w := fun _ _ _ _ => rfl
  go_enter Tryz.func13, Tryz.ntmps13
  go_wp2_with fail
  refine (there_any _ n w ⟨_, rfl⟩).mono ?_
  rintro e w1 ⟨rfl, rfl⟩
  go_wp2_with fail
  have hb3 := below_three w (Obj.cells #[Value.pointer (some { block := bd, off := 0 })] 24) (Obj.cells #[Value.string n] 9) (Obj.cells #[.func (.func 44) #[.pointer (some ⟨bd, 0, none⟩)] #[], .func (.func 61) #[] #[.pointer (some ⟨w.heap.size + 1, 0, none⟩), .pointer (some ⟨w.heap.size, 0, none⟩)]] 72 (0, 0))
  obtain ⟨q1, q2, q3⟩ := heap_three w (Obj.cells #[Value.pointer (some { block := bd, off := 0 })] 24) (Obj.cells #[Value.string n] 9) (Obj.cells #[.func (.func 44) #[.pointer (some ⟨bd, 0, none⟩)] #[], .func (.func 61) #[] #[.pointer (some ⟨w.heap.size + 1, 0, none⟩), .pointer (some ⟨w.heap.size, 0, none⟩)]] 72 (0, 0))
  refine (first_read (h.below hb3) hn (by rw [cell_of_block q2]; rfl) (by rw [cell_of_block q1]; rfl) q3).mono ?_
  rintro e w2 ⟨rfl, hb⟩
  have hb2 : Below w.heap.size w w2 := hb3.trans (hb.mono hb3.size)
  clear hb hb3 q1 q2 q3
  have h2 := h.below hb2
  by_cases hr : readE n.data.toList s = 0
  · obtain ⟨f, hf, hbt⟩ := read_there hr
    have hx := get_mem hf
    have c0 := h2.c0
    have gl : ∀ k, (Instr.lookup 56 (.map (some bm)) (.string n) false).run Tryz.prog (w2.drewN k) = .ok (.pointer (some ⟨blk n.data.toList, 0, none⟩)) (w2.drewN k) := fun k => by
      have := (h2.below (below_drewN w2 k)).look n hn
      rw [hf] at this
      exact this
    have c4 := h2.g0 hx
    have c5 := h2.g1 hx
    obtain ⟨p, c, hdv, _⟩ := h2.slice hx
    rw [hdv] at c4
    simp only at c4 c5
    have hl : loose n.data.toList s = f.b.length - f.fast := by simp [loose, hr, hf]
    have hfl := hg.fast _ hx
    simp only at hfl
    have hbig : f.b.length ≤ 4194304 := by
      have h1 := hg.bytes
      obtain ⟨h3, _⟩ := total_del hg.rise hf
      omega
    have HL := Lib.hid hl
    have HB := Lib.hid hb2
    rw [hr]
    generalize blk n.data.toList = g at *
    clear h2 hdv hf hx hr hb2 hbt hl
    have hw : IntKind.i64.wrap ((f.b.length : Int) - (f.fast : Int)) = f.b.length - f.fast := IntWalk.i64_in _ (by omega)
    go_wp2_with fail
    go_quiet (fail)
    go_wp2_with fail
    go_ret
    refine ⟨?_, HB.out.trans (below_drewN _ _)⟩
    rw [HL.out]
    show Ending.returned (Value.int IntKind.i64 ((f.b.length : Int) - (f.fast : Int))) = _
    congr 2
    omega
  · have hl : loose n.data.toList s = 0 := by simp [loose, hr]
    have hne : (readE n.data.toList s != 0) = true := by simpa using hr
    generalize hE : readE n.data.toList s = E at *
    have HL := Lib.hid hl
    have HB := Lib.hid hb2
    clear hE hr hl hb2 h2
    go_wp2_with fail
    go_ret
    exact ⟨by rw [HL.out]; rfl, HB.out⟩

set_option maxHeartbeats 1000000 in
theorem quota_any {ρ : Nat → Option Role} {w : World} {bd : Nat} {s : St} {bm : Nat} {blk : Nm → Nat} {dv : Nm → Value} (h : RepX ρ w bd s bm blk dv) (k : Int) :
    Calls Tryz.prog 30 #[.pointer (some ⟨bd, 0, none⟩), .int .i64 k] w (MethPost ρ w bd (quota k s)) := by
  have c0 := h.c0
  have c3 := h.c3
  have c1 := h.c1
  have f1 : w.frozen? ⟨bd, 1, none⟩ = false := frozen_of_block h.hd
  have HR := Lib.hid h
  clear h
  go_enter Tryz.func30, Tryz.ntmps30
  go_wp2_with fail
  refine (answers_any bd bm s.off w c0 c3).mono ?_
  rintro e w1 ⟨rfl, rfl⟩
  have hne : ((if s.off = true then (8 : Int) else 0) == 2) = false := by cases s.off <;> rfl
  generalize (if s.off = true then (8 : Int) else 0) = A at *
  by_cases h0 : k < 0
  · have hq : quota k s = (1, s) := by simp [quota, h0]
    have HQ := Lib.hid hq
    clear hq
    have k0 : decide (k < 0) = true := by simpa using h0
    go_wp2_with fail
    go_ret
    show MethPost ρ w1 bd (quota k s) _ _
    rw [HQ.out]
    exact ⟨rfl, ρ, HR.out.rep, Fr.refl _ _⟩
  · have k0 : decide (k < 0) = false := by simpa using h0
    by_cases h1 : 4194304 < k
    · have hq : quota k s = (1, s) := by simp [quota, h1]
      have HQ := Lib.hid hq
      clear hq
      have k1 : decide (k > 4194304) = true := by simpa using h1
      go_wp2_with fail
      go_ret
      show MethPost ρ w1 bd (quota k s) _ _
      rw [HQ.out]
      exact ⟨rfl, ρ, HR.out.rep, Fr.refl _ _⟩
    · have hq : quota k s = (0, { s with quota := k }) := by simp [quota, h0, h1]
      have HQ := Lib.hid hq
      clear hq
      have k1 : decide (k > 4194304) = false := by simpa using h1
      go_wp2_with fail
      go_ret
      have h := HR.out
      show MethPost ρ w1 bd (quota k s) _ _
      rw [HQ.out]
      refine ⟨rfl, ρ, ?_⟩
      rw [setCell_eq w1 bd 1 _ _ _ _ h.hd]
      exact ⟨(h.own k s.fuse s.off).rep, Fr.setBlock h.rd _⟩
end Go.Proofs.YtjlchphbkmaacaaGreatDoor
