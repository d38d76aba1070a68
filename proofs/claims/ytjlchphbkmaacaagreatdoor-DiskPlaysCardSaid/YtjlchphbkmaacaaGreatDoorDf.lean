/- disk.first: a row of questions, the first error of them. -/
import Derived.Test.YtjlchphbkmaacaaGreatDoorDa
set_option linter.unusedVariables false
set_option linter.unusedSimpArgs false
namespace Go.Proofs.YtjlchphbkmaacaaGreatDoor
open Go.RowKit

/-- QUESTIONS, one behind the other: what the row bs of function values comes to. -/
def Asks (P : Program) (bs : Nat) : List Value → World → (Int → World → Prop) → Prop
  | [], W, Q => Q 0 W
  | f :: fs, W, Q => ∃ k fst cap, f = .func (.func k) fst cap ∧ (∀ W, (callFunc k (fst ++ cap)).run P W = .ok (.enter k (fst ++ cap)) W) ∧
      Calls P k (fst ++ cap) W fun e W' => ∃ n : Int, e = .returned (.int .i64 n) ∧ W'.heap[bs]? = W.heap[bs]? ∧ ((n = 0 ∧ Asks P bs fs W' Q) ∨ (n ≠ 0 ∧ Q n W'))

def FirstPost (Q : Int → World → Prop) (e : Ending) (w' : World) : Prop := ∃ n : Int, e = .returned (.int .i64 n) ∧ Q n w'

theorem asks_step {P : Program} {bs : Nat} {fvs : List Value} {k : Nat} {W : World} {Q : Int → World → Prop} (hk : k < fvs.length) (h : Asks P bs (fvs.drop k) W Q) :
    ∃ K fst cap, fvs[k]? = some (.func (.func K) fst cap) ∧ (∀ W, (callFunc K (fst ++ cap)).run P W = .ok (.enter K (fst ++ cap)) W) ∧
      Calls P K (fst ++ cap) W fun e W' => ∃ n : Int, e = .returned (.int .i64 n) ∧ W'.heap[bs]? = W.heap[bs]? ∧ ((n = 0 ∧ Asks P bs (fvs.drop (k + 1)) W' Q) ∨ (n ≠ 0 ∧ Q n W')) := by
  rw [List.drop_eq_getElem_cons hk] at h
  obtain ⟨K, fst, cap, hf, he, hc⟩ := h
  exact ⟨K, fst, cap, by rw [List.getElem?_eq_getElem hk, hf], he, hc⟩

set_option maxHeartbeats 400000 in
theorem first_calls (bs : Nat) (fvs : List Value) (Q : Int → World → Prop) (w : World) (hb : w.heap[bs]? = some (.cells fvs.toArray 72 (0, 0))) (hlen : fvs.length ≤ 1000)
    (hA : Asks Tryz.prog bs fvs w Q) :
    Calls Tryz.prog 43 #[.slice (some ⟨bs, 0, none⟩) fvs.length fvs.length] w (FirstPost Q) := by
  go_enter Tryz.func43, Tryz.ntmps43
  go_wp2
  go_loopw [8] (fun i wr => ∃ k : Nat, k ≤ fvs.length ∧ i = .int .i64 k ∧ wr.heap[bs]? = w.heap[bs]? ∧ Asks Tryz.prog bs (fvs.drop k) wr Q) (fun i _ => fvs.length - (intOf i).toNat)
  case atStart => exact ⟨0, Nat.zero_le _, rfl, rfl, hA⟩
  case round =>
    obtain ⟨k, hk, rfl, hh, hAk⟩ := hrel
    by_cases hlt : k < fvs.length
    · obtain ⟨K, fst, cap, hf, he, hc⟩ := asks_step hlt hAk
      have hcell : wr.cell? ⟨bs, k, none⟩ = some (.func (.func K) fst cap) := by
        unfold World.cell?
        rw [hh, hb]
        simpa using hf
      have Hh := Lib.hid hh
      have Hc := Lib.hid hc
      have HA := Lib.hid hAk
      clear hh hc hAk hf
      go_wp2_with fail
      refine (Hc.out).mono ?_
      rintro e w' ⟨n, rfl, hb', hn⟩
      have Hb' := Lib.hid hb'
      clear hb'
      rcases hn with ⟨rfl, hA'⟩ | ⟨hn, hQ⟩
      · have HA' := Lib.hid hA'
        clear hA'
        go_wp2_with fail
        go_roundw
        case rel => exact ⟨k + 1, by omega, by go_num, Hb'.out.trans Hh.out, HA'.out⟩
        case measure => simp [intOf]; omega
      · have HQ := Lib.hid hQ
        clear hQ
        have hn' : (n != 0) = true := by simpa using hn
        have Hn := Lib.hid hn
        clear hn
        go_wp2_with fail
        go_ret
        exact ⟨n, rfl, HQ.out⟩
    · obtain rfl : k = fvs.length := by omega
      have HA := Lib.hid hAk
      clear hAk
      have Hh := Lib.hid hh
      clear hh
      go_wp2_with fail
      go_ret
      refine ⟨0, rfl, ?_⟩
      have := HA.out
      rw [List.drop_length] at this
      exact this

end Go.Proofs.YtjlchphbkmaacaaGreatDoor
