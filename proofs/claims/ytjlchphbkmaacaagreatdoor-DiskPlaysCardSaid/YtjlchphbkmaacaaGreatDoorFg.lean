/- Calls that came in. -/
import Derived.Test.YtjlchphbkmaacaaGreatDoorFe
set_option linter.unusedVariables false
set_option linter.unusedSimpArgs false
namespace Go.Proofs.YtjlchphbkmaacaaGreatDoor
open Go.RowKit Go.MapKept Go.ChangeMaps Go.Maps
attribute [local go_sem ↓] Go.wp_at_zero Go.wp_at_succ
open Dk

/-- A call that came in. -/
structure Dk.ActV.In (A : ActV) (w : World) : Prop where
  nm : A.nm.size ≤ maxLen
  ot : A.ot.size ≤ maxLen
  b : BytesAt w A.pb A.mb A.bs
  bc : A.pb = none → A.cb = 0
  bm : A.mb ≤ 140737488355328
  p0 : A.picks.length = A.mp
  p1 : ∀ x ∈ A.picks, x < 65536
  p2 : ∀ j, j < A.mp → ∃ a, A.pp = some a ∧ w.cell? (a.add j) = some (.int .u16 (A.picks.getD j 0))
  p3 : 0 < A.mp → ∀ a, A.pp = some a → a.block < w.heap.size
  n1 : A.n ≤ 9223372036854775807
theorem Dk.ActV.In.ok {A : ActV} {w w' : World} {ρ : Nat → Option Role} (h : A.In w) (hρ : ∀ b, b < w.heap.size → ρ b = none) (hb : Below w.heap.size w w') : A.Ok ρ w' where
  nm := h.nm
  ot := h.ot
  b := h.b.keep fun a _ hlt => hb.block _ hlt
  bc := h.bc
  bm := h.bm
  p := ⟨h.p0, h.p1, fun j hj => by
    obtain ⟨a, e, hc⟩ := h.p2 j hj
    exact ⟨a, e, (hb.cell (cell_lt hc)).trans hc⟩, fun h0 a e => hρ _ (h.p3 h0 a e)⟩
/-- Calls that came in, in a row: six cells each. -/
structure Dk.ActsAt (w : World) (p : Option Addr) (m : Nat) : Prop where
  each : ∀ i, i < m → ∃ (b o : Nat) (A : ActV), p = some ⟨b, o, none⟩ ∧ b < w.heap.size ∧ A.In w ∧ w.cell? ⟨b, o + i * 6, none⟩ = some (.int .i64 A.what) ∧ w.cell? ⟨b, o + i * 6 + 1, none⟩ = some (.string A.nm) ∧ w.cell? ⟨b, o + i * 6 + 2, none⟩ = some (.string A.ot) ∧ w.cell? ⟨b, o + i * 6 + 3, none⟩ = some (.slice A.pb A.mb A.cb) ∧ w.cell? ⟨b, o + i * 6 + 4, none⟩ = some (.int .i64 A.n) ∧ w.cell? ⟨b, o + i * 6 + 5, none⟩ = some (.slice A.pp A.mp A.cp)
end Go.Proofs.YtjlchphbkmaacaaGreatDoor
