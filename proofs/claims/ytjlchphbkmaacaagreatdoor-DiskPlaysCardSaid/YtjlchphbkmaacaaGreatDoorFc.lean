/- Are two rows of names the same? -/
import Derived.Test.YtjlchphbkmaacaaGreatDoorFb
set_option linter.unusedVariables false
set_option linter.unusedSimpArgs false
namespace Go.Proofs.YtjlchphbkmaacaaGreatDoor
open Go.RowKit Go.MapKept Go.ChangeMaps Go.Maps
attribute [local go_sem ↓] Go.wp_at_zero Go.wp_at_succ
open Dk

theorem Dk.Fine.doF {s : St} (h : Fine s) (A : ActV) (hn : A.n ≤ 9223372036854775807) : Fine (doF A s).2 := by
  unfold Dk.doF
  repeat' split
  · exact h.create _
  · exact h.append _ _
  · exact h.sync _
  · exact h.rename _ _
  · exact h.truncate _ _
  · exact h.remove _
  · exact h.quota _
  · exact h.fuse _ hn
  · exact h.crash _ _
  · exact h

/-- A row of names in memory. -/
structure Dk.StrsAt (w : World) (p : Option Addr) (ss : List Nm) : Prop where
  cells : ∀ j x, ss[j]? = some x → ∃ g, p = some ⟨g, 0, none⟩ ∧ w.cell? ⟨g, j, none⟩ = some (.string ⟨x.toArray⟩)
theorem Dk.StrsAt.below {w w' : World} {p : Option Addr} {ss : List Nm} (h : StrsAt w p ss) (hb : Below w.heap.size w w') : StrsAt w' p ss :=
  ⟨fun j x hx => by
    obtain ⟨g, e, hc⟩ := h.cells j x hx
    exact ⟨g, e, (hb.cell (cell_lt hc)).trans hc⟩⟩
theorem Dk.StrsAt.of_own {w : World} {base m : Nat} {p : Option Addr} {c : Nat} {ss : List Nm} (h : w.ownsRow base 9 1 (.slice p m c) ss.length (ss.map encStr)) : StrsAt w p ss :=
  ⟨fun j x hx => by
    have hj := (List.getElem?_eq_some_iff.1 hx).1
    obtain ⟨g, cap, he, hc⟩ := row_cell h (by omega)
    simp only [Value.slice.injEq] at he
    refine ⟨g, he.1, (hc j hj).trans ?_⟩
    simp [hx, encStr]⟩

def SamePost (w : World) (ss tt : List Nm) (e : Ending) (w' : World) : Prop := e = .returned (.bool (ss == tt)) ∧ Below w.heap.size w w'

theorem ba_toList (x : Nm) : (⟨x.toArray⟩ : ByteArray).toList = x := by
  rw [ByteArray.toList_eq]

set_option maxRecDepth 100000 in
set_option maxHeartbeats 1000000 in
theorem same_any (w : World) (p q : Option Addr) (c d : Nat) (ss tt : List Nm) (hp : StrsAt w p ss) (hq : StrsAt w q tt) (hm : ss.length ≤ 140737488355328) :
    Calls Tryz.prog 25 #[.slice p ss.length c, .slice q tt.length d] w (SamePost w ss tt) := by
  have HP := Lib.hid hp
  have HQ := Lib.hid hq
  clear hp hq
  generalize hl : ss.length = m at *
  generalize hk : tt.length = n at *
  have HL := Lib.hid hl
  have HK := Lib.hid hk
  clear hl hk
  go_enter Tryz.func25, Tryz.ntmps25
  by_cases hmn : m = n
  · subst hmn
    go_wp2_with fail
    go_loopw [5] (fun i wr => ∃ k : Nat, k ≤ m ∧ i = .int .i64 k ∧ Below w.heap.size w wr ∧ ∀ j, j < k → ss[j]? = tt[j]?) (fun i _ => m - (intOf i).toNat)
    case atStart => exact ⟨0, Nat.zero_le _, rfl, Below.refl _ _, fun j hj => absurd hj (Nat.not_lt_zero _)⟩
    case round =>
      obtain ⟨k, hk, rfl, hb, heq⟩ := hrel
      have HB := Lib.hid hb
      have HE := Lib.hid heq
      clear hb heq
      by_cases hlt : k < m
      · have hs : ss[k]? = some (ss.getD k []) := by
          rw [List.getD_eq_getElem?_getD, List.getElem?_eq_getElem (by rw [HL.out]; exact hlt)]; rfl
        have ht : tt[k]? = some (tt.getD k []) := by
          rw [List.getD_eq_getElem?_getD, List.getElem?_eq_getElem (by rw [HK.out]; exact hlt)]; rfl
        generalize ss.getD k [] = x at *
        generalize tt.getD k [] = y at *
        obtain ⟨g, rfl, hc⟩ := (HP.out.below HB.out).cells k x hs
        obtain ⟨g', rfl, hc'⟩ := (HQ.out.below HB.out).cells k y ht
        have HS := Lib.hid hs
        have HT := Lib.hid ht
        clear hs ht
        by_cases hxy : x = y
        · have hbe : (x == y) = true := beq_iff_eq.2 hxy
          have HX := Lib.hid hxy
          clear hxy
          go_wp2_with fail
          go_quiet (fail)
          go_wp2_with fail
          go_roundw
          case rel =>
            refine ⟨k + 1, by omega, by go_num, HB.out.trans (below_drewN _ _), fun j hj => ?_⟩
            rcases Nat.lt_or_ge j k with h | h
            · exact HE.out j h
            · obtain rfl : j = k := by omega
              rw [HS.out, HT.out, HX.out]
          case measure => simp [intOf]; omega
        · have hbe : (x == y) = false := beq_eq_false_iff_ne.2 hxy
          have HX := Lib.hid hxy
          clear hxy
          go_wp2_with fail
          go_quiet (fail)
          go_wp2_with fail
          go_ret
          refine ⟨?_, HB.out.trans (below_drewN _ _)⟩
          have : (ss == tt) = false := beq_eq_false_iff_ne.2 fun e => HX.out (by
            have h1 := HS.out
            rw [e, HT.out] at h1
            exact (Option.some.inj h1).symm)
          rw [this]
          rfl
      · obtain rfl : k = m := by omega
        go_wp2_with fail
        go_ret
        refine ⟨?_, HB.out⟩
        have : (ss == tt) = true := beq_iff_eq.2 (List.ext_getElem? fun j => by
          rcases Nat.lt_or_ge j k with h | h
          · exact HE.out j h
          · rw [List.getElem?_eq_none (by rw [HL.out]; exact h), List.getElem?_eq_none (by rw [HK.out]; exact h)])
        rw [this]
        rfl
  · have hne : ((m : Int) != (n : Int)) = true := by simp only [bne_iff_ne, ne_eq]; omega
    have HX := Lib.hid hmn
    clear hmn
    go_wp2_with fail
    go_ret
    refine ⟨?_, Below.refl _ _⟩
    have : (ss == tt) = false := beq_eq_false_iff_ne.2 fun e => HX.out (by rw [← HL.out, ← HK.out, e])
    rw [this]
    rfl
end Go.Proofs.YtjlchphbkmaacaaGreatDoor
