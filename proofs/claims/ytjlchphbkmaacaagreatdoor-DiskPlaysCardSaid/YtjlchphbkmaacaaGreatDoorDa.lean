/- The leaf closures of package disk: what each call does. -/
import Derived.Test.YtjlchphbkmaacaaGreatDoorRows
import Derived.WalkKit
import Derived.WalkSpells
import Derived.WalkLawsBesides
import Derived.Deep.QuietTactic
import Derived.BigQuiet
import Derived.Lib.Hide
set_option linter.unusedVariables false
set_option linter.unusedSimpArgs false
namespace Go.Proofs.YtjlchphbkmaacaaGreatDoor
open Go.RowKit

set_option maxHeartbeats 400000 in
theorem wrong_any (b : Bool) (e : Int) (w : World) :
    Calls Tryz.prog 49 #[.bool b, .int .i64 e] w fun r w' =>
      r = .returned (.func (.func 69) #[] #[.pointer (some ⟨w.heap.size, 0, none⟩), .pointer (some ⟨w.heap.size + 1, 0, none⟩)]) ∧
      w' = (w.alloc (.cells #[.bool b] 4)).alloc (.cells #[.int .i64 e] 25) := by
  have hmf : ∀ (fn : Fn) (first cap : Array Value) (w : World), (Instr.makeFunc fn first cap).run Tryz.prog w = .ok (.func fn first cap) w := fun _ _ _ _ => rfl
  go_enter Tryz.func49, Tryz.ntmps49
  go_wp2
  go_ret
  exact ⟨rfl, rfl⟩

set_option maxHeartbeats 400000 in
theorem wrong1_any (b : Bool) (e : Int) (a1 a2 : Addr) (w : World) (h1 : w.cell? a1 = some (.bool b)) (h2 : w.cell? a2 = some (.int .i64 e)) :
    Calls Tryz.prog 69 #[.pointer (some a1), .pointer (some a2)] w fun r w' => r = .returned (.int .i64 (if b then e else 0)) ∧ w' = w := by
  go_enter Tryz.func69, Tryz.ntmps69
  cases b
  all_goals
    go_wp2
    go_ret
    exact ⟨rfl, rfl⟩

set_option maxHeartbeats 400000 in
theorem there_any (p : Value) (s : ByteArray) (w : World) (hp : ∃ a, p = .pointer a) :
    Calls Tryz.prog 45 #[p, .string s] w fun r w' =>
      r = .returned (.func (.func 61) #[] #[.pointer (some ⟨w.heap.size + 1, 0, none⟩), .pointer (some ⟨w.heap.size, 0, none⟩)]) ∧
      w' = (w.alloc (.cells #[p] 24)).alloc (.cells #[.string s] 9) := by
  obtain ⟨a, rfl⟩ := hp
  have hmf : ∀ (fn : Fn) (first cap : Array Value) (w : World), (Instr.makeFunc fn first cap).run Tryz.prog w = .ok (.func fn first cap) w := fun _ _ _ _ => rfl
  go_enter Tryz.func45, Tryz.ntmps45
  go_wp2
  go_ret
  exact ⟨rfl, rfl⟩

end Go.Proofs.YtjlchphbkmaacaaGreatDoor
