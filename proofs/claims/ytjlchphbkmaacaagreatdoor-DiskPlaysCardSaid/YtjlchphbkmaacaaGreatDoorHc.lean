/- The reference's New, May, at, Used, burns. -/
import Derived.Test.YtjlchphbkmaacaaGreatDoorHb
import Derived.Deep.QuietTactic
import Derived.BigQuiet
import Derived.IntWalk
set_option linter.unusedVariables false
set_option linter.unusedSimpArgs false
namespace Go.Proofs.YtjlchphbkmaacaaGreatDoor
open Go.RowKit Go.MapKept Go.ChangeMaps Go.Maps
attribute [local go_sem ↓] Go.wp_at_zero Go.wp_at_succ
open Dk

section
variable {σ : Nat → Option Role} {w : World} {rd : Nat} {s : St} {vF : Value} {fv lv : Nm → Value}

def RNewPost (q : Int) (w : World) (e : Ending) (w' : World) : Prop :=
  if 0 ≤ q ∧ q ≤ 4194304 then ∃ σ rd, e = .returned (.tuple #[.pointer (some ⟨rd, 0, none⟩), .int .i64 0]) ∧ RefRep σ w' rd (fresh q) ∧ (∀ b, b < w.heap.size → σ b = none) ∧ Below w.heap.size w w'
  else e = .returned (.tuple #[.pointer none, .int .i64 1]) ∧ w' = w
theorem rnew_any (q : Int) (w : World) : Calls Tryz.prog 6 #[.int .i64 q] w (RNewPost q w) := by
  by_cases h0 : 0 ≤ q
  · by_cases h1 : q ≤ 4194304
    · have HC := Lib.hid (And.intro h0 h1)
      have k0 : decide (q < 0) = false := by rw [decide_eq_false_iff_not]; omega
      have k1 : decide (q > 4194304) = false := by rw [decide_eq_false_iff_not]; omega
      clear h0 h1
      go_enter Tryz.func6, Tryz.ntmps6
      go_wp2_with fail
      go_ret2
      unfold RNewPost
      rw [if_pos HC.out]
      have hat := allocs_at [.cells #[.slice none 0 0, .int .i64 q, .int .i64 (-1), .bool false] 61] w 0 _ rfl
      refine ⟨fun b => if b = w.heap.size then some .disk else none, w.heap.size, rfl, ⟨.slice none 0 0, fun _ => .slice none 0 0, fun _ => .slice none 0 0, ?_, ⟨.disk, by simp⟩, hat, World.ownsRow_nil _ _ _ _, (fun g hg => by cases hg), (fun x hx => by cases hx), (fun x hx => by cases hx), (fun x hx => by cases hx), fun x hx => by cases hx⟩, fun b hb => by show (if b = w.heap.size then some Role.disk else none) = none; rw [if_neg (by omega)], bel_alloc (Below.refl _ _) _⟩
      intro b r e
      have e : (if b = w.heap.size then some Role.disk else none) = some r := e
      split at e
      · rename_i hb
        rw [hb, World.size_alloc]
        omega
      · cases e
    · have k0 : decide (q < 0) = false := by rw [decide_eq_false_iff_not]; omega
      have k1 : decide (q > 4194304) = true := by rw [decide_eq_true_iff]; omega
      have HC := Lib.hid (show ¬ (0 ≤ q ∧ q ≤ 4194304) from fun h => h1 h.2)
      clear h0 h1
      go_enter Tryz.func6, Tryz.ntmps6
      go_wp2_with fail
      go_ret2
      unfold RNewPost
      rw [if_neg HC.out]
      exact ⟨rfl, rfl⟩
  · have k0 : decide (q < 0) = true := by rw [decide_eq_true_iff]; omega
    have HC := Lib.hid (show ¬ (0 ≤ q ∧ q ≤ 4194304) from fun h => h0 h.1)
    clear h0
    go_enter Tryz.func6, Tryz.ntmps6
    go_wp2_with fail
    go_ret2
    unfold RNewPost
    rw [if_neg HC.out]
    exact ⟨rfl, rfl⟩

def AtPostR (n : Nm) (w : World) (s : St) (e : Ending) (w' : World) : Prop := e = .returned (.tuple #[.int .i64 (atI n s.F), .bool (get n s.F).isSome]) ∧ Below w.heap.size w w'
set_option maxRecDepth 100000 in
set_option maxHeartbeats 1000000 in
theorem at_any (h : RefX σ w rd s vF fv lv) (hg : Fine s) (n : ByteArray) :
    Calls Tryz.prog 57 #[.pointer (some ⟨rd, 0, none⟩), .string n] w (AtPostR n.data.toList w s) := by
  obtain ⟨p, c, rfl⟩ := h.form
  have H := Lib.hid h
  have HG := Lib.hid hg
  have d0 := h.d0
  have hlen := hg.files
  have hal := atI_le n.data.toList s.F
  generalize hl : s.F.length = len at *
  have HL := Lib.hid hl
  clear h hg hl
  have hnl : n.toList = n.data.toList := ByteArray.toList_eq n
  go_enter Tryz.func57, Tryz.ntmps57
  go_wp2_with fail
  go_loop [6] (fun i => ∃ k : Nat, k ≤ atI n.data.toList s.F ∧ i = .int .i64 k) (fun i => len - (intOf i).toNat)
  case atStart => exact ⟨0, Nat.zero_le _, rfl⟩
  case round =>
    obtain ⟨k, hk, rfl⟩ := hrel
    by_cases hlt : k < len
    · obtain ⟨x, hx⟩ : ∃ x, s.F[k]? = some x := ⟨_, List.getElem?_eq_getElem (by rw [HL.out]; exact hlt)⟩
      obtain ⟨g, c', hv, ht0, _, _, _, _, _⟩ := H.out.tri hx
      simp only [Value.slice.injEq] at hv
      obtain ⟨rfl, hv0, rfl⟩ := hv
      clear hv0
      have HX := Lib.hid hx
      have HT := Lib.hid ht0
      clear hx
      cases hb : bytesBefore x.1 n.data.toList
      · have HS := Lib.hid (atI_stop hk HX.out hb)
        have hb' : Op.bytesLess x.1 n.toList = false := by rw [less_before, hnl]; exact hb
        have HB := Lib.hid hb
        have HNL := Lib.hid hnl
        clear hb hnl
        go_wp2_with fail
        have he : (get n.data.toList s.F).isSome = (x.1 == n.data.toList) := by
          cases e : x.1 == n.data.toList
          · rw [at_none HG.out.rise fun y hy hn => ?_]
            · rfl
            · rw [← HS.out, HX.out] at hy
              cases hy
              rw [hn, beq_self_eq_true] at e
              cases e
          · rw [at_some HG.out.rise HX.out (by simpa using e)]
            rfl
        have HE := Lib.hid he
        have hj0 : (0 : Int) ≤ (k : Int) := by omega
        have hjk : (k : Int) < (len : Int) := by omega
        clear he hb'
        go_quiet (fail)
        all_goals
          go_wp2_with fail
          go_ret2
          unfold AtPostR
          rw [HE.out, ← HS.out, HNL.out]
          exact ⟨rfl, below_drewN _ _⟩
      · have HM := Lib.hid (atI_more hk HX.out hb)
        have hb' : Op.bytesLess x.1 n.toList = true := by rw [less_before, hnl]; exact hb
        clear hb hnl
        go_wp2_with fail
        go_round
        case rel => exact ⟨k + 1, HM.out, by go_num⟩
        case measure => simp [intOf]; omega
    · obtain rfl : k = len := by omega
      have he : (get n.data.toList s.F).isSome = false := by
        rw [at_none HG.out.rise fun y hy _ => ?_]
        · rfl
        · have := (List.getElem?_eq_some_iff.1 hy).1
          have := HL.out
          omega
      have HE := Lib.hid he
      have HS := Lib.hid (show k = atI n.data.toList s.F by omega)
      clear he hnl
      go_wp2_with fail
      go_quiet (fail)
      all_goals
        go_wp2_with fail
        go_ret2
        unfold AtPostR
        rw [HE.out, ← HS.out]
        exact ⟨rfl, below_drewN _ _⟩

/-! ### May -/
def okc (c : UInt8) : Bool := alphabet.contains c
theorem okc_nat : ∀ m, m < 256 → okc (UInt8.ofNat m) = decide ((97 ≤ m ∧ m ≤ 122) ∨ (48 ≤ m ∧ m ≤ 57) ∨ m = 45 ∨ m = 46) := by decide +kernel
theorem okc_is (c : UInt8) : okc c = decide ((97 ≤ c.toNat ∧ c.toNat ≤ 122) ∨ (48 ≤ c.toNat ∧ c.toNat ≤ 57) ∨ c.toNat = 45 ∨ c.toNat = 46) := by
  have h := okc_nat c.toNat c.toNat_lt
  rw [UInt8.ofNat_toNat] at h
  exact h
theorem dropWhile_nil (p : UInt8 → Bool) : ∀ l : List UInt8, l.dropWhile p = [] ↔ ∀ x ∈ l, p x = true
  | [] => by simp
  | y :: r => by
    rw [List.dropWhile_cons]
    cases h : p y
    · simp [h]
    · simp [h, dropWhile_nil p r]
theorem trim_all (l cs : List UInt8) : (Lib.trimS l cs).isEmpty = l.all (cs.contains ·) := by
  have h : Lib.trimS l cs = [] ↔ ∀ x ∈ l, cs.contains x = true := by
    show (l.reverse.dropWhile (cs.contains ·)).reverse.dropWhile (cs.contains ·) = [] ↔ _
    rw [dropWhile_nil]
    constructor
    · intro h
      have e : l.reverse.dropWhile (cs.contains ·) = [] := by
        cases hd : l.reverse.dropWhile (cs.contains ·) with
        | nil => rfl
        | cons y r =>
          exfalso
          have h1 := h y (by rw [hd]; simp)
          have h2 := List.head?_dropWhile_not (cs.contains ·) l.reverse
          rw [hd] at h2
          simp only [List.head?_cons] at h2
          rw [h1] at h2
          cases h2
      rw [dropWhile_nil] at e
      exact fun x hx => e x (by simpa using hx)
    · intro h x hx
      exact h x (by
        have := (List.dropWhile_sublist (cs.contains ·) (l := l.reverse)).subset (List.mem_reverse.1 hx)
        simpa using this)
  rw [Bool.eq_iff_iff, List.isEmpty_iff, h, List.all_eq_true]
theorem may_is (n : Nm) : Dk.may n = (decide (1 ≤ n.length) && decide (n.length ≤ 32) && n.all okc) := by
  unfold Dk.may
  rw [trim_all]
  rfl
theorem may_no {n : ByteArray} {k : Nat} (h : k < n.size) (hc : okc n[k] = false) : Dk.may n.data.toList = false := by
  rw [may_is]
  have : n.data.toList.all okc = false := by
    rw [List.all_eq_false]
    exact ⟨n[k], by show n.data[k] ∈ _; simp, by rw [hc]; decide⟩
  rw [this, Bool.and_false]
theorem all_step {n : ByteArray} {k : Nat} (h : k < n.size) (ha : (n.data.toList.take k).all okc = true) (hc : okc n[k] = true) : (n.data.toList.take (k + 1)).all okc = true := by
  have e : n.data.toList.take (k + 1) = n.data.toList.take k ++ [n[k]] := by
    rw [List.take_succ_eq_append_getElem (by simpa using h)]
    rfl
  rw [e, List.all_append, ha]
  simp [hc]

def RMayPost (n : Nm) (w : World) (e : Ending) (w' : World) : Prop := e = .returned (.bool (Dk.may n)) ∧ w' = w
set_option maxHeartbeats 1000000 in
theorem rmay_any (n : ByteArray) (w : World) (hn : n.size ≤ 9223372036854775807) :
    Calls Tryz.prog 16 #[.string n] w (RMayPost n.data.toList w) := by
  have hns : n.data.toList.length = n.size := Array.length_toList
  have HNS := Lib.hid hns
  clear hns
  go_enter Tryz.func16, Tryz.ntmps16
  go_wp2_with fail
  go_loop [3] (fun i => ∃ k : Nat, k ≤ n.size ∧ i = .int .i64 k ∧ (n.data.toList.take k).all okc = true) (fun i => n.size - (intOf i).toNat)
  case atStart => exact ⟨0, Nat.zero_le _, rfl, rfl⟩
  case round =>
    obtain ⟨k, hk, rfl, hall⟩ := hrel
    have HA := Lib.hid hall
    clear hall
    by_cases hlt : k < n.size
    · have hc := okc_is n[k]
      have HC := Lib.hid hc
      clear hc
      go_wp2_with fail
      all_goals
        simp only [bne_iff_ne, ne_eq, bne_eq_false_iff_eq] at *
      all_goals first
        | (go_round
           case rel => exact ⟨k + 1, by omega, by go_num, all_step hlt HA.out (by rw [HC.out, decide_eq_true_iff]; omega)⟩
           case measure => simp [intOf]; omega)
        | (go_ret
           exact ⟨by rw [may_no hlt (by rw [HC.out, decide_eq_false_iff_not]; omega)]; rfl, rfl⟩)
    · have hall : n.data.toList.all okc = true := by
        have := HA.out
        rwa [List.take_of_length_le (by rw [HNS.out]; omega)] at this
      have HALL := Lib.hid hall
      clear hall
      go_wp2_with fail
      all_goals
        go_ret
        refine ⟨?_, rfl⟩
        rw [may_is, HALL.out, HNS.out, Bool.and_true]
        first
          | (show Ending.returned (Value.bool (decide ((n.size : Int) ≤ 32))) = _
             congr 2
             rw [Bool.eq_iff_iff]
             simp only [Bool.and_eq_true, decide_eq_true_eq]
             omega)
          | (show Ending.returned (Value.bool false) = _
             congr 2
             symm
             rw [Bool.and_eq_false_iff]
             left
             rw [decide_eq_false_iff_not]
             omega)

def RUsedPost (w : World) (s : St) (e : Ending) (w' : World) : Prop := e = .returned (.int .i64 (used s)) ∧ Below w.heap.size w w'
set_option maxRecDepth 100000 in
set_option maxHeartbeats 1000000 in
theorem rused_any (h : RefX σ w rd s vF fv lv) (hg : Fine s) :
    Calls Tryz.prog 42 #[.pointer (some ⟨rd, 0, none⟩)] w (RUsedPost w s) := by
  obtain ⟨p, c, rfl⟩ := h.form
  have H := Lib.hid h
  have HG := Lib.hid hg
  have d0 := h.d0
  have d3 := h.d3
  have hlen := hg.files
  generalize hl : s.F.length = len at *
  have HL := Lib.hid hl
  clear h hg hl
  cases ho : s.off
  · have HO := Lib.hid ho
    rw [ho] at d3
    clear ho d0 d3
    go_enter Tryz.func42, Tryz.ntmps42
    go_wp2_with fail
    go_loopw [3, 4] (fun t i wr => ∃ k : Nat, k ≤ len ∧ i = .int .i64 k ∧ t = .int .i64 (total (s.F.take k)) ∧ Below w.heap.size w wr) (fun _ i _ => len - (intOf i).toNat)
    case atStart => exact ⟨0, Nat.zero_le _, rfl, rfl, Below.refl _ _⟩
    case round =>
      obtain ⟨k, hk, rfl, rfl, hb⟩ := hrel
      have HX := Lib.hid (H.out.below hb)
      have HB := Lib.hid hb
      clear hb
      have d0 := HX.out.d0
      have d3 := HX.out.d3
      rw [HO.out] at d3
      by_cases hlt : k < len
      · obtain ⟨x, hx⟩ : ∃ x, s.F[k]? = some x := ⟨_, List.getElem?_eq_getElem (by rw [HL.out]; exact hlt)⟩
        obtain ⟨g, c', hv, _, ht1, ht2, _, _, _⟩ := HX.out.tri hx
        simp only [Value.slice.injEq] at hv
        obtain ⟨rfl, hv0, rfl⟩ := hv
        clear hv0
        have hmem := List.mem_of_getElem? hx
        obtain ⟨pf, cf, ef⟩ := own_slice (HX.out.hf x hmem)
        obtain ⟨pl, cl, el⟩ := own_slice (HX.out.hl x hmem)
        rw [ef] at ht1
        rw [el] at ht2
        have hfl := fastB_len (HG.out.fast x hmem)
        have hll := looseB_len x.2
        have htt := total_take hx
        have htb := total_take_le s.F (k + 1)
        have hgb := HG.out.bytes
        have hfx := HG.out.fast x hmem
        rw [hfl] at ht1
        rw [hll] at ht2
        generalize hT : total (s.F.take k) = T at *
        generalize hm : x.2.b.length = m at *
        generalize hf0 : x.2.fast = fa at *
        have hj0 : (0 : Int) ≤ (k : Int) := by omega
        have hjk : (k : Int) < (len : Int) := by omega
        have hw1 : IntKind.i64.wrap ((fa : Int) + ((m - fa : Nat) : Int)) = (m : Int) := by rw [show (fa : Int) + ((m - fa : Nat) : Int) = m by omega]; exact IntWalk.i64_in _ (by omega)
        have hw2 : IntKind.i64.wrap ((T : Int) + (m : Int)) = ((T + m : Nat) : Int) := by rw [show (T : Int) + (m : Int) = ((T + m : Nat) : Int) by omega]; exact IntWalk.i64_in _ (by omega)
        have HTT := Lib.hid htt
        clear htt htb hgb hfx hfl hll hT hm hf0 ef el hx hmem
        go_wp2_with fail
        go_quiet (fail)
        all_goals
          go_wp2_with fail
          go_roundw
          case rel => exact ⟨k + 1, by omega, by go_num, by rw [HTT.out]; simp, HB.out.trans (below_drewN _ _)⟩
          case measure => simp [intOf]; omega
      · obtain rfl : k = len := by omega
        go_wp2_with fail
        go_ret
        unfold RUsedPost used
        rw [HO.out, List.take_of_length_le (by rw [HL.out]; exact Nat.le_refl _)]
        exact ⟨rfl, HB.out⟩
  · have HO := Lib.hid ho
    rw [ho] at d3
    clear ho
    go_enter Tryz.func42, Tryz.ntmps42
    go_wp2_with fail
    go_loop [3, 4] (fun t i => t = .int .i64 0 ∧ i = .int .i64 0) (fun _ _ => 0)
    case atStart => exact ⟨rfl, rfl⟩
    case round =>
      obtain ⟨rfl, rfl⟩ := hrel
      by_cases h0 : 0 < len
      · go_wp2_with fail
        go_ret
        unfold RUsedPost used
        rw [HO.out]
        exact ⟨rfl, Below.refl _ _⟩
      · obtain rfl : len = 0 := by omega
        go_wp2_with fail
        go_ret
        unfold RUsedPost used
        rw [HO.out]
        exact ⟨rfl, Below.refl _ _⟩
end
end Go.Proofs.YtjlchphbkmaacaaGreatDoor
