/- May, answers, the questions' closures: what each call does. -/
import Derived.Test.YtjlchphbkmaacaaGreatDoorDs
import Derived.Test.YtjlchphbkmaacaaGreatDoorDf
import Derived.Deep.DeepFit
import Derived.Deep.DeepMust
set_option linter.unusedVariables false
set_option linter.unusedSimpArgs false
namespace Go.Proofs.YtjlchphbkmaacaaGreatDoor
open Go.RowKit

theorem below_drewN (w : World) (n : Nat) {B : Nat} : Below B w (w.drewN n) := ⟨rfl, rfl, rfl, Nat.le_refl _, fun _ _ => rfl⟩

theorem may_false1 {n : Dk.Nm} (h : ¬ 1 ≤ n.length) : Dk.may n = false := by simp [Dk.may, h]
theorem may_false2 {n : Dk.Nm} (h : ¬ n.length ≤ 32) : Dk.may n = false := by simp [Dk.may, h]
theorem may_mid {n : Dk.Nm} (h1 : 1 ≤ n.length) (h2 : n.length ≤ 32) : Dk.may n = (Lib.trimS n Dk.alphabet).isEmpty := by simp [Dk.may, h1, h2]
set_option maxHeartbeats 1000000 in
theorem may_any (s : ByteArray) (w : World) (hs : s.size ≤ 9223372036854775807) :
    Calls Tryz.prog 15 #[.string s] w fun e w' => e = .returned (.bool (Dk.may s.data.toList)) ∧ Below w.heap.size w w' := by
  have hl : s.data.toList.length = s.size := by simp
  by_cases h1 : 1 ≤ s.size
  · by_cases h2 : s.size ≤ 32
    · have hm := Lib.hid (may_mid (n := s.data.toList) (by omega) (by omega))
      clear hl
      have h1' : decide ((1 : Int) ≤ s.size) = true := by simp; omega
      have h2' : decide ((s.size : Int) ≤ 32) = true := by simp; omega
      go_enter Tryz.func15, Tryz.ntmps15
      go_wp2_with fail
      refine (trim_any s w hs).mono ?_
      rintro e w1 ⟨rfl, hb⟩
      go_wp2_with fail
      go_ret
      exact ⟨by rw [hm.out]; rfl, hb⟩
    · have hm := Lib.hid (may_false2 (n := s.data.toList) (by omega))
      clear hl
      have h1' : decide ((1 : Int) ≤ s.size) = true := by simp; omega
      have h2' : decide ((s.size : Int) ≤ 32) = false := by simp; omega
      go_enter Tryz.func15, Tryz.ntmps15
      go_wp2_with fail
      go_ret
      exact ⟨by rw [hm.out]; rfl, Below.refl _ _⟩
  · have hm := Lib.hid (may_false1 (n := s.data.toList) (by omega))
    clear hl
    have h1' : decide ((1 : Int) ≤ s.size) = false := by simp; omega
    go_enter Tryz.func15, Tryz.ntmps15
    go_wp2_with fail
    go_ret
    exact ⟨by rw [hm.out]; rfl, Below.refl _ _⟩

set_option maxHeartbeats 400000 in
theorem answers_any (bd bm : Nat) (off : Bool) (w : World) (h0 : w.cell? ⟨bd, 0, none⟩ = some (.map (some bm))) (h3 : w.cell? ⟨bd, 3, none⟩ = some (.bool off)) :
    Calls Tryz.prog 44 #[.pointer (some ⟨bd, 0, none⟩)] w fun e w' => e = .returned (.int .i64 (if off then 8 else 0)) ∧ w' = w := by
  have qT : ∀ (w : World) (r : Option Nat), (binOp .eql 56 (.map r) (.map none)).run Tryz.prog w = .ok (.bool r.isNone) w := fun w r => run_eql_map_nil w _ _ _ r Tryz.underlying56
  cases off
  all_goals
    go_enter Tryz.func44, Tryz.ntmps44
    go_wp2
    go_ret
    exact ⟨rfl, rfl⟩

set_option maxHeartbeats 400000 in
theorem answers_nil (w : World) :
    Calls Tryz.prog 44 #[.pointer none] w fun e w' => e = .returned (.int .i64 2) ∧ w' = w := by
  go_enter Tryz.func44, Tryz.ntmps44
  go_wp2
  go_ret
  exact ⟨rfl, rfl⟩

set_option maxHeartbeats 400000 in
theorem there1_any (bd bm : Nat) (s : ByteArray) (a1 a2 : Addr) (pv : Bool) (g : Nat) (w : World) (hs : s.size ≤ 9223372036854775807)
    (h1 : w.cell? a1 = some (.string s)) (h2 : w.cell? a2 = some (.pointer (some ⟨bd, 0, none⟩))) (l1 : a1.block < w.heap.size) (l2 : a2.block < w.heap.size) (l3 : bd < w.heap.size)
    (h0 : w.cell? ⟨bd, 0, none⟩ = some (.map (some bm)))
    (hl : ∀ W, Below w.heap.size w W → (Instr.lookup 56 (.map (some bm)) (.string s) false).run Tryz.prog W = .ok (if pv then .pointer (some ⟨g, 0, none⟩) else .pointer none) W) :
    Calls Tryz.prog 61 #[.pointer (some a1), .pointer (some a2)] w fun e w' => e = .returned (.int .i64 (if Dk.may s.data.toList then (if pv then 0 else 6) else 1)) ∧ Below w.heap.size w w' := by
  have hnot : ∀ (x : Bool) (w : World), (Op.unary .not (.bool x)).run Tryz.prog w = .ok (.bool (!x)) w := fun _ _ => rfl
  have HL := Lib.hid hl
  clear hl
  cases hm : Dk.may s.data.toList
  · have Hm := Lib.hid hm
    clear hm
    go_enter Tryz.func61, Tryz.ntmps61
    go_wp2_with fail
    refine (may_any s w hs).mono ?_
    rintro e w1 ⟨rfl, hb⟩
    have Hb := Lib.hid hb
    clear hb
    rw [Hm.out]
    go_wp2_with fail
    go_ret
    exact ⟨rfl, Hb.out⟩
  · have Hm := Lib.hid hm
    clear hm
    go_enter Tryz.func61, Tryz.ntmps61
    go_wp2_with fail
    refine (may_any s w hs).mono ?_
    rintro e w1 ⟨rfl, hb⟩
    rw [Hm.out]
    have g1 : w1.cell? a1 = some (.string s) := by rw [hb.cell l1]; exact h1
    have g2 : w1.cell? a2 = some (.pointer (some ⟨bd, 0, none⟩)) := by rw [hb.cell l2]; exact h2
    have g0 : w1.cell? ⟨bd, 0, none⟩ = some (.map (some bm)) := by rw [hb.cell l3]; exact h0
    have gl := fun n => HL.out (w1.drewN n) (hb.trans (below_drewN w1 n))
    have Hb := Lib.hid hb
    clear hb
    cases pv
    all_goals
      simp only [if_true, if_false, Bool.false_eq_true] at gl
      go_wp2_with fail
      go_quiet (fail)
      go_wp2_with fail
      go_ret
      exact ⟨rfl, Hb.out.trans (below_drewN _ _)⟩
end Go.Proofs.YtjlchphbkmaacaaGreatDoor
