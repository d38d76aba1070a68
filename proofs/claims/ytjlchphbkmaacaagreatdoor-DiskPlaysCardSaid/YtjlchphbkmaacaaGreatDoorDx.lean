/- The questions of Create, Append and Truncate that look at the disk. -/
import Derived.Test.YtjlchphbkmaacaaGreatDoorDw
import Derived.IntWalk
set_option linter.unusedVariables false
set_option linter.unusedSimpArgs false
namespace Go.Proofs.YtjlchphbkmaacaaGreatDoor
open Go.RowKit Go.MapKept Go.ChangeMaps Go.Maps
attribute [local go_sem ↓] Go.wp_at_zero Go.wp_at_succ
open Dk

set_option maxRecDepth 100000 in
set_option maxHeartbeats 1000000 in
theorem create2_any (bd bm : Nat) (m : Nat) (a1 : Addr) (w : World) (h1 : w.cell? a1 = some (.pointer (some ⟨bd, 0, none⟩))) (h0 : w.cell? ⟨bd, 0, none⟩ = some (.map (some bm)))
    (hl : ∀ ty, (Builtin.len_ #[56] ty #[.map (some bm)]).run Tryz.prog w = .ok (.int .i64 m) w) (n : Int) (hn : (if 512 ≤ m then 7 else 0) = n) :
    Calls Tryz.prog 51 #[.pointer (some a1)] w fun e w' => e = .returned (.int .i64 n) ∧ Below w.heap.size w w' := by
  have Hn := Lib.hid hn
  clear hn
  by_cases hm : 512 ≤ m
  · have k1 : decide ((m : Int) ≥ 512) = true := by simp; omega
    have Hm := Lib.hid hm
    clear hm
    go_enter Tryz.func51, Tryz.ntmps51
    go_wp2_with fail
    refine (wrong_any _ _ _).mono ?_
    rintro e w' ⟨rfl, rfl⟩
    go_wp2_with fail
    refine (wrong1_new _ _ _).mono ?_
    rintro e w' ⟨rfl, rfl⟩
    go_wp2_with fail
    go_ret
    exact ⟨by rw [← Hn.out, if_pos Hm.out]; rfl, by repeat (first | exact Below.refl _ _ | apply Below.drew | refine Below.alloc ?_ (by simp) _)⟩
  · have k1 : decide ((m : Int) ≥ 512) = false := by simp; omega
    have Hm := Lib.hid hm
    clear hm
    go_enter Tryz.func51, Tryz.ntmps51
    go_wp2_with fail
    refine (wrong_any _ _ _).mono ?_
    rintro e w' ⟨rfl, rfl⟩
    go_wp2_with fail
    refine (wrong1_new _ _ _).mono ?_
    rintro e w' ⟨rfl, rfl⟩
    go_wp2_with fail
    go_ret
    exact ⟨by rw [← Hn.out, if_neg Hm.out]; rfl, by repeat (first | exact Below.refl _ _ | apply Below.drew | refine Below.alloc ?_ (by simp) _)⟩

set_option maxRecDepth 100000 in
set_option maxHeartbeats 1000000 in
theorem append1_any {ρ : Nat → Option Role} {w : World} {bd : Nat} {s : St} {bm : Nat} {blk : Nm → Nat} {dv : Nm → Value} (h : RepX ρ w bd s bm blk dv) (hg : Fine s) (a1 a2 : Addr) (p : Option Addr) (m c : Nat)
    (h1 : w.cell? a1 = some (.slice p m c)) (h2 : w.cell? a2 = some (.pointer (some ⟨bd, 0, none⟩))) (hm : m ≤ maxLen)
    (n : Int) (hn : (if s.quota - used s < m then 7 else 0) = n) :
    Calls Tryz.prog 53 #[.pointer (some a1), .pointer (some a2)] w fun e w' => e = .returned (.int .i64 n) ∧ Below w.heap.size w w' := by
  have hq0 := hg.q0
  have hq1 := hg.q1
  have hu : used s ≤ 4194304 := by
    unfold used
    split
    · omega
    · exact hg.bytes
  unfold maxLen at hm
  have c1 := h.c1
  have l1 : a1.block < w.heap.size := by
    rcases Nat.lt_or_ge a1.block w.heap.size with h | h
    · exact h
    · simp [World.cell?, Array.getElem?_eq_none h] at h1
  have l2 : a2.block < w.heap.size := by
    rcases Nat.lt_or_ge a2.block w.heap.size with h | h
    · exact h
    · simp [World.cell?, Array.getElem?_eq_none h] at h2
  have l3 := h.bdlt
  have S : ∀ W, Below w.heap.size w W → (W.cell? a1 = some (.slice p m c) ∧ W.cell? a2 = some (.pointer (some ⟨bd, 0, none⟩)) ∧ W.cell? ⟨bd, 1, none⟩ = some (.int .i64 s.quota)) :=
    fun W hb => ⟨(hb.cell l1).trans h1, (hb.cell l2).trans h2, (hb.cell l3).trans c1⟩
  have HS := Lib.hid S
  have HR := Lib.hid h
  have HG := Lib.hid hg
  generalize hU : used s = U at *
  have HU := Lib.hid hU
  have Hn := Lib.hid hn
  clear S h hg hU hn
  by_cases hc : s.quota - U < m
  · have k1 : decide ((m : Int) > s.quota - U) = true := by simp; omega
    have HC := Lib.hid hc
    clear hc
    have hw : IntKind.i64.wrap (s.quota - (U : Int)) = s.quota - U := IntWalk.i64_in _ (by omega)
    go_enter Tryz.func53, Tryz.ntmps53
    go_wp2_with fail
    go_region_held3 (fun w' => w'.cell? a1 = some (.slice p m c) ∧ w'.cell? a2 = some (.pointer (some ⟨bd, 0, none⟩)) ∧ w'.cell? ⟨bd, 1, none⟩ = some (.int .i64 s.quota))
      (exact HS.out _ (by repeat (first | assumption | exact Below.refl _ _ | apply Below.drew | refine bel_alloc ?_ _)))
      (first
        | (go_at_call 41; refine (used_any (HR.out.below (Below.refl _ _).drew) HG.out).mono ?_; rintro e w' ⟨rfl, hb⟩; have hb' : Below w.heap.size w w' := ((Below.refl w.heap.size w).drew).trans hb; clear hb; rw [HU.out])
        | (go_at_call 49; refine (wrong_any _ _ _).mono ?_; rintro e w' ⟨rfl, rfl⟩)
        | (go_at_call 69; refine (wrong1_new _ _ _).mono ?_; rintro e w' ⟨rfl, rfl⟩))
    go_wp2_with fail
    go_ret
    refine ⟨?_, by repeat (first | assumption | exact Below.refl _ _ | apply Below.drew | refine bel_alloc ?_ _)⟩
    rw [← Hn.out]
    rw [if_pos HC.out]; rfl
  · have k1 : decide ((m : Int) > s.quota - U) = false := by simp; omega
    have HC := Lib.hid hc
    clear hc
    have hw : IntKind.i64.wrap (s.quota - (U : Int)) = s.quota - U := IntWalk.i64_in _ (by omega)
    go_enter Tryz.func53, Tryz.ntmps53
    go_wp2_with fail
    go_region_held3 (fun w' => w'.cell? a1 = some (.slice p m c) ∧ w'.cell? a2 = some (.pointer (some ⟨bd, 0, none⟩)) ∧ w'.cell? ⟨bd, 1, none⟩ = some (.int .i64 s.quota))
      (exact HS.out _ (by repeat (first | assumption | exact Below.refl _ _ | apply Below.drew | refine bel_alloc ?_ _)))
      (first
        | (go_at_call 41; refine (used_any (HR.out.below (Below.refl _ _).drew) HG.out).mono ?_; rintro e w' ⟨rfl, hb⟩; have hb' : Below w.heap.size w w' := ((Below.refl w.heap.size w).drew).trans hb; clear hb; rw [HU.out])
        | (go_at_call 49; refine (wrong_any _ _ _).mono ?_; rintro e w' ⟨rfl, rfl⟩)
        | (go_at_call 69; refine (wrong1_new _ _ _).mono ?_; rintro e w' ⟨rfl, rfl⟩))
    go_wp2_with fail
    go_ret
    refine ⟨?_, by repeat (first | assumption | exact Below.refl _ _ | apply Below.drew | refine bel_alloc ?_ _)⟩
    rw [← Hn.out]
    rw [if_neg (by have := HC.out; omega)]; rfl

theorem cell_lt {w : World} {a : Addr} {v : Value} (h : w.cell? a = some v) : a.block < w.heap.size := by
  rcases Nat.lt_or_ge a.block w.heap.size with h1 | h1
  · exact h1
  · simp [World.cell?, Array.getElem?_eq_none h1] at h

set_option maxRecDepth 100000 in
set_option maxHeartbeats 1000000 in
theorem truncate1_any {ρ : Nat → Option Role} {w : World} {bd : Nat} {s : St} {bm : Nat} {blk : Nm → Nat} {dv : Nm → Value} (h : RepX ρ w bd s bm blk dv) (hg : Fine s) (a1 a2 a3 : Addr) (k : Int) (n : ByteArray) (hn : n.size ≤ maxLen) (f : Fi)
    (h1 : w.cell? a1 = some (.int .i64 k)) (h2 : w.cell? a2 = some (.pointer (some ⟨bd, 0, none⟩))) (h3 : w.cell? a3 = some (.string n)) (hf : get n.data.toList s.F = some f)
    (z : Int) (hz : (if (f.b.length : Int) < k then 1 else 0) = z) :
    Calls Tryz.prog 56 #[.pointer (some a1), .pointer (some a2), .pointer (some a3)] w fun e w' => e = .returned (.int .i64 z) ∧ Below w.heap.size w w' := by
  have c0 := h.c0
  have hx := get_mem hf
  have gl := (h.below (Below.refl w.heap.size w).drew).look n hn
  rw [hf] at gl
  simp only [Option.isSome_some, if_true] at gl
  have c4 := h.g0 hx
  obtain ⟨p, c, hdv, _⟩ := h.slice hx
  rw [hdv] at c4
  simp only at c4
  generalize blk n.data.toList = g at *
  have Hz := Lib.hid hz
  clear h hg hdv hx hf hz
  generalize f.b.length = m at *
  by_cases hc : (m : Int) < k
  · have k1 : decide (k > (m : Int)) = true := by simp; omega
    have HC := Lib.hid hc
    clear hc
    go_enter Tryz.func56, Tryz.ntmps56
    go_wp2_with fail
    go_region_held3 (fun w' => w'.cell? a1 = some (.int .i64 k) ∧ w'.cell? a2 = some (.pointer (some ⟨bd, 0, none⟩)) ∧ w'.cell? a3 = some (.string n) ∧ w'.cell? ⟨bd, 0, none⟩ = some (.map (some bm)) ∧ w'.cell? ⟨g, 0, none⟩ = some (.slice p m c)) (go_keep)
      (first
        | (go_at_call 49; refine (wrong_any _ _ _).mono ?_; rintro e w' ⟨rfl, rfl⟩)
        | (go_at_call 69; refine (wrong1_new_drew _ _ _).mono ?_; rintro e w' ⟨rfl, rfl⟩))
    go_wp2_with fail
    go_ret
    exact ⟨by rw [← Hz.out, if_pos HC.out]; rfl, by repeat (first | assumption | exact Below.refl _ _ | apply Below.drew | refine bel_alloc ?_ _)⟩
  · have k1 : decide (k > (m : Int)) = false := by simp; omega
    have HC := Lib.hid hc
    clear hc
    go_enter Tryz.func56, Tryz.ntmps56
    go_wp2_with fail
    go_region_held3 (fun w' => w'.cell? a1 = some (.int .i64 k) ∧ w'.cell? a2 = some (.pointer (some ⟨bd, 0, none⟩)) ∧ w'.cell? a3 = some (.string n) ∧ w'.cell? ⟨bd, 0, none⟩ = some (.map (some bm)) ∧ w'.cell? ⟨g, 0, none⟩ = some (.slice p m c)) (go_keep)
      (first
        | (go_at_call 49; refine (wrong_any _ _ _).mono ?_; rintro e w' ⟨rfl, rfl⟩)
        | (go_at_call 69; refine (wrong1_new_drew _ _ _).mono ?_; rintro e w' ⟨rfl, rfl⟩))
    go_wp2_with fail
    go_ret
    exact ⟨by rw [← Hz.out, if_neg (by have := HC.out; omega)]; rfl, by repeat (first | assumption | exact Below.refl _ _ | apply Below.drew | refine bel_alloc ?_ _)⟩
end Go.Proofs.YtjlchphbkmaacaaGreatDoor
