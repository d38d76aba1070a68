/- Used: how many bytes all files have. -/
import Derived.Test.YtjlchphbkmaacaaGreatDoorDo
set_option linter.unusedVariables false
set_option linter.unusedSimpArgs false
namespace Go.Proofs.YtjlchphbkmaacaaGreatDoor
open Go.RowKit Go.MapKept Go.ChangeMaps Go.Maps
attribute [local go_sem ↓] Go.wp_at_zero Go.wp_at_succ
open Dk

namespace Dk
theorem total_take {F : List (Nm × Fi)} {k : Nat} {x : Nm × Fi} (h : F[k]? = some x) : total (F.take (k + 1)) = total (F.take k) + x.2.b.length := by
  obtain ⟨hk, e⟩ := List.getElem?_eq_some_iff.1 h
  rw [List.take_succ_eq_append_getElem hk, e]
  simp [total]
theorem total_take_le (F : List (Nm × Fi)) (k : Nat) : total (F.take k) ≤ total F := by
  have h := List.take_append_drop k F
  have : total F = total (F.take k) + total (F.drop k) := by
    have e := congrArg total h
    rw [← e]
    unfold total
    rw [List.map_append, List.sum_append]
  omega
section
variable {ρ : Nat → Option Role} {w w' : World} {bd : Nat} {s : St} {bm : Nat} {blk : Nm → Nat} {dv : Nm → Value}
/-- The look-up of a file that is there. -/
theorem RepX.look_there (h : RepX ρ w bd s bm blk dv) (hg : Fine s) {x : Nm × Fi} (hx : x ∈ s.F) :
    (Instr.lookup 56 (.map (some bm)) (.string ⟨x.1.toArray⟩) false).run Tryz.prog w = .ok (.pointer (some ⟨blk x.1, 0, none⟩)) w := by
  have hn := hg.name x hx
  have := h.look ⟨x.1.toArray⟩ (by show x.1.toArray.size ≤ _; rw [List.size_toArray]; unfold maxLen; omega)
  rw [this]
  show (Result.ok (if (get x.1 s.F).isSome then _ else _) _) = _
  rw [get_of_mem hg.rise hx]
  rfl
end
/-- The k-th element of a row that is owned. -/
theorem row_cell {w : World} {base : Nat} {e : TypeId} {v : Value} {n : Nat} {xs : List Value} (h : w.ownsRow base e 1 v n xs) (hn : 0 < n) :
    ∃ g cap, v = .slice (some ⟨g, 0, none⟩) n cap ∧ ∀ k, k < n → w.cell? ⟨g, k, none⟩ = xs[k]? := by
  obtain ⟨h1, ⟨_, h2⟩ | ⟨g, cap, cur, hv, _, hg, hc, _, hs, ht⟩⟩ := h
  · omega
  · refine ⟨g, cap, hv, fun k hk => ?_⟩
    rw [cell_of_block hg, ← ht, List.getElem?_take, if_pos (by omega)]
    simp
end Dk

def UsedPost (w : World) (s : St) (e : Ending) (w' : World) : Prop := e = .returned (.int .i64 (used s)) ∧ Below w.heap.size w w'

set_option maxHeartbeats 1000000 in
theorem used_any {ρ : Nat → Option Role} {w : World} {bd : Nat} {s : St} {bm : Nat} {blk : Nm → Nat} {dv : Nm → Value} (h : RepX ρ w bd s bm blk dv) (hg : Fine s) :
    Calls Tryz.prog 41 #[.pointer (some ⟨bd, 0, none⟩)] w (UsedPost w s) := by
  go_enter Tryz.func41, Tryz.ntmps41
  go_wp2_with fail
  refine (names_any h hg).mono ?_
  rintro e w1 ⟨v, rfl, hrow, hb, hnil⟩
  have h1 := h.below hb
  have HB := Lib.hid hb
  have Hnil := Lib.hid hnil
  clear hb hnil
  have c0 := h1.c0
  by_cases hn : names s = []
  · obtain rfl : v = .slice none 0 0 := Hnil.out.2 hn
    have hu : used s = 0 := by
      unfold names at hn
      unfold used
      split at hn
      · rename_i ho; rw [if_pos ho]
      · rename_i ho
        rw [if_neg ho, List.map_eq_nil_iff.1 hn]
        rfl
    have Hu := Lib.hid hu
    clear hu hn hrow
    go_wp2_with fail
    go_loop [3, 9] (fun t i => i = .int .i64 0 ∧ t = .int .i64 0) (fun _ _ => 0)
    case atStart => exact ⟨rfl, rfl⟩
    case round =>
      obtain ⟨rfl, rfl⟩ := hrel
      go_wp2_with fail
      go_ret
      exact ⟨by rw [Hu.out]; rfl, HB.out⟩
  · have ho : s.off = false := by
      cases ho : s.off
      · rfl
      · exact absurd (by simp [names, ho]) hn
    have hns : names s = s.F.map (·.1) := by simp [names, ho]
    have hu : used s = total s.F := by simp [used, ho]
    have hlen : (names s).length = s.F.length := by rw [hns]; simp
    have hpos : 0 < s.F.length := by
      rw [← hlen]
      exact List.length_pos_iff.2 hn
    rw [hlen] at hrow
    obtain ⟨g, cap, rfl, hcell⟩ := row_cell hrow hpos
    have hf := hg.files
    have ht := hg.bytes
    have Hns := Lib.hid hns
    have Hu := Lib.hid hu
    have Hc := Lib.hid hcell
    clear hns hu hcell hrow hlen ho hn
    go_wp2_with fail
    go_loop [3, 9] (fun t i => ∃ k : Nat, k ≤ s.F.length ∧ i = .int .i64 k ∧ t = .int .i64 (total (s.F.take k) : Nat)) (fun _ i => s.F.length - (intOf i).toNat)
    case atStart => exact ⟨0, Nat.zero_le _, rfl, rfl⟩
    case round =>
      obtain ⟨k, hk, rfl, rfl⟩ := hrel
      by_cases hlt : k < s.F.length
      · have hx : s.F[k] ∈ s.F := List.getElem_mem hlt
        generalize hxe : s.F[k] = x at hx
        have hx' : s.F[k]? = some x := by rw [List.getElem?_eq_getElem hlt, hxe]
        have e1 := Hc.out k hlt
        rw [Hns.out] at e1
        have e2 : w1.cell? ⟨g, k, none⟩ = some (.string ⟨x.1.toArray⟩) := by
          rw [e1]
          simp [hx', encStr]
        have e3 := h1.look_there hg hx
        have e4 := h1.g0 hx
        obtain ⟨a, c, hdv, _⟩ := h1.slice hx
        rw [hdv] at e4
        have t1 := total_take hx'
        have t2 := total_take_le s.F (k + 1)
        have t3 := total_take_le s.F k
        generalize hT : total (s.F.take k) = T at *
        have HT := Lib.hid hT
        have T1 := Lib.hid t1
        rw [t1] at t2
        have HX := Lib.hid hxe
        clear e1 hdv hx' t1 hT hxe
        go_wp2_with fail
        go_round
        case rel => exact ⟨k + 1, by omega, by go_num, by rw [T1.out]; go_num⟩
        case measure => simp [intOf]; omega
      · obtain rfl : k = s.F.length := by omega
        go_wp2_with fail
        go_ret
        exact ⟨by rw [Hu.out]; rfl, HB.out⟩
end Go.Proofs.YtjlchphbkmaacaaGreatDoor
