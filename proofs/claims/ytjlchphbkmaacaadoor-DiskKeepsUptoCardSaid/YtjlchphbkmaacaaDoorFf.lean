/- shape: all that a disk has, as a text. -/
import Derived.Test.YtjlchphbkmaacaaDoorFe
set_option linter.unusedVariables false
set_option linter.unusedSimpArgs false
namespace Go.Proofs.YtjlchphbkmaacaaDoor
open Go.RowKit Go.MapKept Go.ChangeMaps Go.Maps
attribute [local go_sem ↓] Go.wp_at_zero Go.wp_at_succ
open Dk

namespace Dk
def one (s : St) (n : Nm) : ByteArray := (((((⟨n.toArray⟩ : ByteArray) ++ ⟨#[0]⟩) ++ ⟨(readB n s).toArray⟩) ++ ⟨#[0]⟩) ++ Utf8.encode (loose n s : Nat)) ++ ⟨#[0]⟩
def shapeN (s : St) (k : Nat) : ByteArray := ((names s).take k).foldl (fun a n => a ++ one s n) ⟨#[]⟩
def shapeS (s : St) : ByteArray := shapeN s (names s).length

theorem encode_le (z : Int) : (Utf8.encode z).size ≤ 4 := by
  unfold Utf8.encode
  simp only
  repeat' split
  all_goals
    show Array.size _ ≤ 4
    simp
theorem readB_le {s : St} (hg : Fine s) (n : Nm) : (readB n s).length ≤ 4194304 := by
  by_cases hr : readE n s = 0
  · obtain ⟨f, hf, hb⟩ := read_there hr
    rw [hb]
    exact hg.size_le hf
  · simp [readB, hr]
theorem loose_le {s : St} (hg : Fine s) (n : Nm) : loose n s ≤ 4194304 := by
  by_cases hr : readE n s = 0
  · obtain ⟨f, hf, hb⟩ := read_there hr
    have := hg.size_le hf
    simp only [loose, hr, if_true, hf, Option.getD_some]
    omega
  · simp [loose, hr]
theorem ba_size (x : List UInt8) : (⟨x.toArray⟩ : ByteArray).size = x.length := by
  show x.toArray.size = _
  simp
theorem one_le {s : St} (hg : Fine s) {n : Nm} (hn : n.length ≤ 32) : (one s n).size ≤ 4194400 := by
  have h1 := readB_le hg n
  have h2 := encode_le (loose n s : Nat)
  have h3 : (⟨#[0]⟩ : ByteArray).size = 1 := rfl
  have h4 := ba_size n
  have h5 := ba_size (readB n s)
  unfold one
  rw [ByteArray.size_append, ByteArray.size_append, ByteArray.size_append, ByteArray.size_append, ByteArray.size_append]
  omega
theorem names_le {s : St} (hg : Fine s) : (names s).length ≤ 512 ∧ ∀ n ∈ names s, n.length ≤ 32 := by
  unfold names
  split
  · simp
  · refine ⟨by rw [List.length_map]; exact hg.files, fun n hn => ?_⟩
    obtain ⟨x, hx, rfl⟩ := List.mem_map.1 hn
    exact hg.name x hx
theorem shapeN_succ {s : St} {k : Nat} {n : Nm} (h : (names s)[k]? = some n) : shapeN s (k + 1) = shapeN s k ++ one s n := by
  obtain ⟨hk, e⟩ := List.getElem?_eq_some_iff.1 h
  unfold shapeN
  rw [List.take_succ_eq_append_getElem hk, e, List.foldl_append]
  rfl
theorem shapeN_le {s : St} (hg : Fine s) : ∀ k, k ≤ (names s).length → (shapeN s k).size ≤ k * 4194400
  | 0, _ => by simp [shapeN, ByteArray.size]
  | k + 1, h => by
    have hk : (names s)[k]? = some (names s)[k] := List.getElem?_eq_getElem (by omega)
    have h1 := shapeN_le hg k (by omega)
    have h2 := one_le hg (n := (names s)[k]) ((names_le hg).2 _ (List.getElem_mem _))
    rw [shapeN_succ hk, ByteArray.size_append]
    omega
end Dk

theorem conv_string {w : World} {p : Option Addr} {m : Nat} {c : Nat} {bs : List UInt8} (h : BytesAt w p m bs) : (convert 24 9 (.slice p m c)).run Tryd.prog w = .ok (.string ⟨bs.toArray⟩) w := by
  cases p with
  | none =>
    obtain rfl : bs = [] := List.length_eq_zero_iff.1 (h.len.trans (h.nil rfl))
    rw [h.nil rfl, run_convert_bytes_string w 24 9 5 none 0 c Tryd.underlying24 Tryd.underlying5 Tryd.underlying9]
    rfl
  | some a =>
    obtain rfl := h.len
    refine run_convert_bytes_back w 24 9 5 a c bs Tryd.underlying24 Tryd.underlying5 Tryd.underlying9 fun j hj => ?_
    refine h.cells a rfl j _ ?_
    rw [List.getElem?_map, List.getElem?_eq_getElem hj]
    rfl

def ShapePost (w : World) (s : St) (e : Ending) (w' : World) : Prop := e = .returned (.string (shapeS s)) ∧ Below w.heap.size w w'

set_option maxRecDepth 100000 in
set_option maxHeartbeats 2000000 in
theorem shape_any {ρ : Nat → Option Role} {w : World} {bd : Nat} {s : St} {bm : Nat} {blk : Nm → Nat} {dv : Nm → Value} (h : RepX ρ w bd s bm blk dv) (hg : Fine s) :
    Calls Tryd.prog 17 #[.pointer (some ⟨bd, 0, none⟩)] w (ShapePost w s) := by
  have H := Lib.hid h
  have HG := Lib.hid hg
  have hnl := (names_le hg).1
  clear h hg
  go_enter Tryd.func17, Tryd.ntmps17
  go_wp2_with fail
  refine (names_any H.out HG.out).mono ?_
  rintro e w1 ⟨v, rfl, hrow, hb, hnil⟩
  obtain ⟨pa, ca, rfl⟩ := own_slice hrow
  have HSS := Lib.hid (StrsAt.of_own hrow)
  have HB := Lib.hid hb
  clear hrow hb hnil
  generalize hN : (names s).length = N at *
  have HN := Lib.hid hN
  have H0 := Lib.hid (show ⟨#[]⟩ = shapeN s 0 from rfl)
  clear hN
  go_wp2_with fail
  go_loopw [3, 11] (fun t i wr => ∃ k : Nat, k ≤ N ∧ i = .int .i64 k ∧ t = .string (shapeN s k) ∧ Below w1.heap.size w1 wr) (fun _ i _ => N - (intOf i).toNat)
  case atStart => exact ⟨0, Nat.zero_le _, rfl, rfl, Below.refl _ _⟩
  case round =>
    obtain ⟨k, hk, rfl, rfl, hbr⟩ := hrel
    have HBR := Lib.hid hbr
    clear hbr
    by_cases hlt : k < N
    · obtain ⟨n, hn⟩ : ∃ n, (names s)[k]? = some n := ⟨_, List.getElem?_eq_getElem (by rw [HN.out]; exact hlt)⟩
      obtain ⟨g, rfl, hc⟩ := (HSS.out.below HBR.out).cells k n hn
      have hnm : n.length ≤ 32 := (names_le HG.out).2 n (List.mem_of_getElem? hn)
      have hacc := shapeN_le HG.out k (by rw [HN.out]; omega)
      have HX := Lib.hid (shapeN_succ hn)
      have hsz : (⟨n.toArray⟩ : ByteArray).size ≤ 32 := by rw [ba_size]; exact hnm
      obtain ⟨nb, hnb⟩ : ∃ nb : ByteArray, nb = ⟨n.toArray⟩ := ⟨_, rfl⟩
      have HNB := Lib.hid hnb
      rw [← hnb] at hc hsz
      generalize hA : shapeN s k = acc at *
      have HA := Lib.hid hA
      clear hn hnb hA
      go_wp2_with fail
      have HR2 := Lib.hid ((H.out.below HB.out).below HBR.out)
      refine (read_any (H.out.below (HB.out.trans (HBR.out.mono HB.out.size))) HG.out nb (by unfold maxLen; omega)).mono ?_
      rintro e w2 ⟨v, rfl, hrow, hb2⟩
      obtain ⟨p, c, rfl⟩ := own_slice hrow
      have hbw : Below w1.heap.size w1 w2 := HBR.out.trans (hb2.mono HBR.out.size)
      have HB2 := Lib.hid hbw
      have HBY := Lib.hid (own_bytes hrow)
      clear hrow hb2 hbw
      have hrl := readB_le HG.out nb.data.toList
      have hll := loose_le HG.out nb.data.toList
      generalize hrb : readB nb.data.toList s = rb at *
      have HRB := Lib.hid hrb
      have hrs : (⟨rb.toArray⟩ : ByteArray).size ≤ 4194304 := by rw [ba_size]; exact hrl
      have HCV := Lib.hid (show ∀ V, Below w2.heap.size w2 V → (convert 24 9 (.slice p rb.length c)).run Tryd.prog V = .ok (.string ⟨rb.toArray⟩) V from fun V hV => conv_string (HBY.out.keep fun a _ hlt => hV.block _ hlt))
      generalize hLL : loose nb.data.toList s = ll at *
      have HLL := Lib.hid hLL
      have hen := encode_le (ll : Nat)
      have HDISK := Lib.hid (show ∀ V, Below w2.heap.size w2 V → Calls Tryd.prog 11 #[.pointer (some ⟨bd, 0, none⟩), .string nb] V (fun e w' => e = .returned (.int .i64 ll) ∧ Below V.heap.size V w') from fun V hV => by
        have hbb := ((HB.out.trans (HB2.out.mono HB.out.size)).trans (hV.mono (Nat.le_trans HB.out.size HB2.out.size)))
        refine (loose_any (H.out.below hbb) HG.out nb (by unfold maxLen; omega)).mono ?_
        rintro e w' ⟨rfl, hb⟩
        rw [HLL.out]
        exact ⟨rfl, hb⟩)
      clear hrb hLL hrl
      generalize hrbs : (⟨rb.toArray⟩ : ByteArray) = rs at *
      have HRBS := Lib.hid hrbs
      generalize henc : Utf8.encode (ll : Nat) = en at *
      have HENC := Lib.hid henc
      clear hrbs henc hnm
      go_wp2_with fail
      refine wp_region_held_drew (S := fun w' => Below w2.heap.size w2 w' ∧ (convert 24 9 (.slice p rb.length c)).run Tryd.prog w' = .ok (.string rs) w') (by kernel_rfl) ?_ (fun hHeld => ?_)
      · exact ⟨(Below.refl _ _).drew, HCV.out _ (Below.refl _ _).drew⟩
      refine wpAnyH_take (i := 0) (oi := _) (v := (.string acc)) rfl (by kernel_rfl) (by kernel_rfl) (by kernel_rfl) (fun _ _ _ h => h) (Or.inl ⟨by rfl, ?_⟩) (by assumption) ?_
      · intro w' hSw
        (try dsimp only at hSw)
        go_simp
        (try omega)
      (try simp only [Act.put, List.setIfInBounds_toArray, List.set_cons_zero, List.set_cons_succ])
      refine wpAnyH_take (i := 1) (oi := _) (v := (.string nb)) rfl (by kernel_rfl) (by kernel_rfl) (by kernel_rfl) (fun _ _ _ h => h) (Or.inl ⟨by rfl, ?_⟩) (by assumption) ?_
      · intro w' hSw
        (try dsimp only at hSw)
        go_simp
        (try omega)
      (try simp only [Act.put, List.setIfInBounds_toArray, List.set_cons_zero, List.set_cons_succ])
      refine wpAnyH_take (i := 2) (oi := _) (v := (.string (nb ++ ⟨#[0]⟩))) rfl (by kernel_rfl) (by kernel_rfl) (by kernel_rfl) (fun _ _ _ h => h) (Or.inl ⟨by rfl, ?_⟩) (by assumption) ?_
      · intro w' hSw
        (try dsimp only at hSw)
        go_simp
        (try omega)
      (try simp only [Act.put, List.setIfInBounds_toArray, List.set_cons_zero, List.set_cons_succ])
      refine wpAnyH_take (i := 3) (oi := _) (v := (.slice p rb.length c)) rfl (by kernel_rfl) (by kernel_rfl) (by kernel_rfl) (fun _ _ _ h => h) (Or.inl ⟨by rfl, ?_⟩) (by assumption) ?_
      · intro w' hSw
        (try dsimp only at hSw)
        go_simp
        (try omega)
      (try simp only [Act.put, List.setIfInBounds_toArray, List.set_cons_zero, List.set_cons_succ])
      refine wpAnyH_take (i := 4) (oi := _) (v := (.string rs)) rfl (by kernel_rfl) (by kernel_rfl) (by kernel_rfl) (fun _ _ _ h => h) (Or.inl ⟨by rfl, ?_⟩) (by assumption) ?_
      · intro w' hSw
        (try dsimp only at hSw)
        go_simp
        (try omega)
      (try simp only [Act.put, List.setIfInBounds_toArray, List.set_cons_zero, List.set_cons_succ])
      refine wpAnyH_take (i := 5) (oi := _) (v := (.string ((nb ++ ⟨#[0]⟩) ++ rs))) rfl (by kernel_rfl) (by kernel_rfl) (by kernel_rfl) (fun _ _ _ h => h) (Or.inl ⟨by rfl, ?_⟩) (by assumption) ?_
      · intro w' hSw
        (try dsimp only at hSw)
        go_simp
        (try omega)
      (try simp only [Act.put, List.setIfInBounds_toArray, List.set_cons_zero, List.set_cons_succ])
      refine wpAnyH_take (i := 6) (oi := _) (v := (.string (((nb ++ ⟨#[0]⟩) ++ rs) ++ ⟨#[0]⟩))) rfl (by kernel_rfl) (by kernel_rfl) (by kernel_rfl) (fun _ _ _ h => h) (Or.inl ⟨by rfl, ?_⟩) (by assumption) ?_
      · intro w' hSw
        (try dsimp only at hSw)
        go_simp
        (try omega)
      (try simp only [Act.put, List.setIfInBounds_toArray, List.set_cons_zero, List.set_cons_succ])
      refine wpAnyH_take (i := 7) (oi := _) (v := (.pointer (some ⟨bd, 0, none⟩))) rfl (by kernel_rfl) (by kernel_rfl) (by kernel_rfl) (fun _ _ _ h => h) (Or.inl ⟨by rfl, ?_⟩) (by assumption) ?_
      · intro w' hSw
        (try dsimp only at hSw)
        go_simp
        (try omega)
      (try simp only [Act.put, List.setIfInBounds_toArray, List.set_cons_zero, List.set_cons_succ])
      refine wpAnyH_take (i := 8) (oi := _) (v := (.string nb)) rfl (by kernel_rfl) (by kernel_rfl) (by kernel_rfl) (fun _ _ _ h => h) (Or.inl ⟨by rfl, ?_⟩) (by assumption) ?_
      · intro w' hSw
        (try dsimp only at hSw)
        go_simp
        (try omega)
      (try simp only [Act.put, List.setIfInBounds_toArray, List.set_cons_zero, List.set_cons_succ])
      refine wpAnyH_ready (rs := [9]) (by kernel_rfl) (by simp) ?_
      refine AllReadyH.cons (o := _) rfl (fun K hK => ?_) AllReadyH.nil
      go_simp
      refine (HDISK.out _ (Below.refl _ _).drew).mono ?_
      rintro e w3 ⟨rfl, hb3⟩
      have hb3' : Below w2.heap.size w2 w3 := (Below.refl w2.heap.size w2).drew.trans hb3
      have HB3 := Lib.hid hb3'
      clear hb3 hb3'
      refine hK.out _ _ ?_ (fun hHeld => ?_)
      · exact ⟨HB3.out, HCV.out _ HB3.out⟩
      clear hK K
      (try simp only [Act.put, List.setIfInBounds_toArray, List.set_cons_zero, List.set_cons_succ])
      have henc := HENC.out
      have hw32 : IntKind.i32.wrap (ll : Int) = ll := IntWalk.i32_in _ (by omega)
      refine wpAnyH_ready (rs := [10]) (by kernel_rfl) (by simp) ?_
      refine AllReadyH.cons (o := _) rfl (fun K hK => ?_) AllReadyH.nil
      go_simp
      refine hK.out _ _ ?_ (fun hHeld => ?_)
      · exact hHeld
      clear hK K
      (try simp only [Act.put, List.setIfInBounds_toArray, List.set_cons_zero, List.set_cons_succ])
      refine wpAnyH_ready (rs := [11]) (by kernel_rfl) (by simp) ?_
      refine AllReadyH.cons (o := _) rfl (fun K hK => ?_) AllReadyH.nil
      go_simp
      refine hK.out _ _ ?_ (fun hHeld => ?_)
      · exact hHeld
      clear hK K
      (try simp only [Act.put, List.setIfInBounds_toArray, List.set_cons_zero, List.set_cons_succ])
      clear henc hw32
      have q1 : ¬ (9223372036854775807 < nb.size + 1 + rs.size + 1 + en.size) := by omega
      have q2 : ¬ (9223372036854775807 < nb.size + 1 + rs.size + 1 + en.size + 1) := by omega
      have q3 : ¬ (9223372036854775807 < acc.size + (nb.size + 1 + rs.size + 1 + en.size + 1)) := by omega
      refine wpAnyH_ready (rs := [12]) (by kernel_rfl) (by simp) ?_
      refine AllReadyH.cons (o := _) rfl (fun K hK => ?_) AllReadyH.nil
      go_simp
      refine hK.out _ _ ?_ (fun hHeld => ?_)
      · exact hHeld
      clear hK K
      (try simp only [Act.put, List.setIfInBounds_toArray, List.set_cons_zero, List.set_cons_succ])
      refine wpAnyH_ready (rs := [13]) (by kernel_rfl) (by simp) ?_
      refine AllReadyH.cons (o := _) rfl (fun K hK => ?_) AllReadyH.nil
      go_simp
      refine hK.out _ _ ?_ (fun hHeld => ?_)
      · exact hHeld
      clear hK K
      (try simp only [Act.put, List.setIfInBounds_toArray, List.set_cons_zero, List.set_cons_succ])
      refine wpAnyH_ready (rs := [14]) (by kernel_rfl) (by simp) ?_
      refine AllReadyH.cons (o := _) rfl (fun K hK => ?_) AllReadyH.nil
      go_simp
      refine hK.out _ _ ?_ (fun hHeld => ?_)
      · exact hHeld
      clear hK K
      (try simp only [Act.put, List.setIfInBounds_toArray, List.set_cons_zero, List.set_cons_succ])
      refine wpAnyH_ready (rs := [15]) (by kernel_rfl) (by simp) ?_
      refine AllReadyH.cons (o := _) rfl (fun K hK => ?_) AllReadyH.nil
      go_simp
      refine hK.out _ _ ?_ (fun hHeld => ?_)
      · exact hHeld
      clear hK K
      (try simp only [Act.put, List.setIfInBounds_toArray, List.set_cons_zero, List.set_cons_succ])
      refine wpAnyH_done (by kernel_rfl) ?_ _
      clear q1 q2 q3
      go_wp2_with fail
      go_roundw
      case rel =>
        refine ⟨k + 1, by omega, by go_num, ?_, HB2.out.trans (HB3.out.mono HB2.out.size)⟩
        rw [HX.out]
        unfold Dk.one
        have e1 := HNB.out
        subst e1
        rw [show (⟨n.toArray⟩ : ByteArray).data.toList = n from rfl] at HRB HLL
        rw [HRB.out, HLL.out, HENC.out, HRBS.out]
      case measure => simp [intOf]; omega
    · obtain rfl : k = N := by omega
      go_wp2_with fail
      go_ret
      refine ⟨?_, HB.out.trans (HBR.out.mono HB.out.size)⟩
      unfold shapeS
      rw [HN.out]
      rfl
end Go.Proofs.YtjlchphbkmaacaaDoor
