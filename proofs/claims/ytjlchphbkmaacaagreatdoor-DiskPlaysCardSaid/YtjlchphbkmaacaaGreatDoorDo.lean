/- New, Names, Used: what they tell of a disk. -/
import Derived.Test.YtjlchphbkmaacaaGreatDoorDn
import Derived.Test.YtjlchphbkmaacaaGreatDoorDq
set_option linter.unusedVariables false
set_option linter.unusedSimpArgs false
namespace Go.Proofs.YtjlchphbkmaacaaGreatDoor
open Go.RowKit Go.MapKept Go.ChangeMaps Go.Maps
attribute [local go_sem ↓] Go.wp_at_zero Go.wp_at_succ

namespace Dk
section
variable {ρ : Nat → Option Role} {w w' : World} {bd : Nat} {s : St} {bm : Nat} {blk : Nm → Nat} {dv : Nm → Value}
theorem RepX.c0 (h : RepX ρ w bd s bm blk dv) : w.cell? ⟨bd, 0, none⟩ = some (.map (some bm)) := by rw [cell_of_block h.hd]; rfl
theorem RepX.c1 (h : RepX ρ w bd s bm blk dv) : w.cell? ⟨bd, 1, none⟩ = some (.int .i64 s.quota) := by rw [cell_of_block h.hd]; rfl
theorem RepX.c2 (h : RepX ρ w bd s bm blk dv) : w.cell? ⟨bd, 2, none⟩ = some (.int .i64 s.fuse) := by rw [cell_of_block h.hd]; rfl
theorem RepX.c3 (h : RepX ρ w bd s bm blk dv) : w.cell? ⟨bd, 3, none⟩ = some (.bool s.off) := by rw [cell_of_block h.hd]; rfl
theorem RepX.g0 (h : RepX ρ w bd s bm blk dv) {x : Nm × Fi} (hx : x ∈ s.F) : w.cell? ⟨blk x.1, 0, none⟩ = some (dv x.1) := by rw [cell_of_block (h.hf x hx)]; rfl
theorem RepX.g1 (h : RepX ρ w bd s bm blk dv) {x : Nm × Fi} (hx : x ∈ s.F) : w.cell? ⟨blk x.1, 1, none⟩ = some (.int .i64 x.2.fast) := by rw [cell_of_block (h.hf x hx)]; rfl
theorem RepX.bdlt (h : RepX ρ w bd s bm blk dv) : bd < w.heap.size := h.lt _ _ h.rd
/-- A file's bytes: a slice. -/
theorem RepX.slice (h : RepX ρ w bd s bm blk dv) {x : Nm × Fi} (hx : x ∈ s.F) : ∃ a c, dv x.1 = .slice a x.2.b.length c ∧ (a = none → x.2.b = [] ∧ c = 0) := by
  rcases (h.hv x hx).2 with ⟨h1, h2⟩ | ⟨g, cap, cur, hv, _⟩
  · refine ⟨none, 0, by rw [h1, h2], fun _ => ⟨List.eq_nil_of_length_eq_zero h2, rfl⟩⟩
  · exact ⟨_, _, hv, fun e => by cases e⟩
end
end Dk
open Dk

def NamesPost (w : World) (s : St) (e : Ending) (w' : World) : Prop :=
  ∃ v, e = .returned v ∧ w'.ownsRow w.heap.size 9 1 v (names s).length ((names s).map encStr) ∧ Below w.heap.size w w' ∧ (v = .slice none 0 0 ↔ names s = [])

set_option maxHeartbeats 400000 in
theorem names_any {ρ : Nat → Option Role} {w : World} {bd : Nat} {s : St} {bm : Nat} {blk : Nm → Nat} {dv : Nm → Value} (h : RepX ρ w bd s bm blk dv) (hg : Fine s) :
    Calls Tryz.prog 24 #[.pointer (some ⟨bd, 0, none⟩)] w (NamesPost w s) := by
  have c0 := h.c0
  have c3 := h.c3
  cases ho : s.off
  · rw [ho] at c3
    have hn : names s = s.F.map (·.1) := by simp [names, ho]
    have Hn := Lib.hid hn
    have Ho := Lib.hid ho
    clear ho hn
    go_enter Tryz.func24, Tryz.ntmps24
    go_wp2_with fail
    refine (answers_any bd bm false w c0 c3).mono ?_
    rintro e w1 ⟨rfl, rfl⟩
    go_wp2_with fail
    refine (maps_Keys_any (some bm) w1).mono ?_
    rintro e w2 ⟨rfl, rfl⟩
    go_wp2_with fail
    refine (sorted_keys bm s.F.length (dat blk s.F) Rp w1 h.hm (by rw [dat_size]; have := hg.files; unfold maxLen; omega) (by rw [dat_size]; have := hg.files; omega)).mono ?_
    rintro e w3 ⟨v, ss, rfl, hp, hrow, hnil, hb⟩
    have Hp := Lib.hid hp
    have Hr := Lib.hid hrow
    have Hnil := Lib.hid hnil
    have Hb := Lib.hid hb
    clear hp hrow hnil hb
    go_wp2_with fail
    go_ret
    have hp := Hp.out
    rw [dat_keys] at hp
    have hl : ss.length = (names s).length := by rw [Hn.out]; exact hp.length_eq
    refine ⟨v, rfl, ?_, ?_, ?_⟩
    · have := Hr.out
      rw [sort_rise hg.rise hp, hl, ← Hn.out] at this
      obtain ⟨h1, h2⟩ := this
      refine ⟨h1, h2.imp id ?_⟩
      rintro ⟨g, cap, cur, e1, e2, r⟩
      exact ⟨g, cap, cur, e1, Nat.le_trans (by simp) e2, r⟩
    · exact ((Below.refl _ w1).alloc (Nat.le_refl _) _).trans (Hb.out.mono (by simp))
    · rw [Hnil.out, Hn.out]
      constructor
      · rintro rfl
        exact List.eq_nil_of_length_eq_zero (by rw [← hp.length_eq]; rfl)
      · intro e
        exact List.eq_nil_of_length_eq_zero (by rw [hp.length_eq, e]; rfl)
  · rw [ho] at c3
    have hn : names s = [] := by simp [names, ho]
    have Hn := Lib.hid hn
    clear ho hn
    go_enter Tryz.func24, Tryz.ntmps24
    go_wp2_with fail
    refine (answers_any bd bm true w c0 c3).mono ?_
    rintro e w1 ⟨rfl, rfl⟩
    go_wp2_with fail
    go_ret
    refine ⟨.slice none 0 0, rfl, ?_, Below.refl _ _, by rw [Hn.out]; simp⟩
    rw [Hn.out]
    exact World.ownsRow_nil _ _ _ _

set_option maxHeartbeats 400000 in
theorem names_nil (w : World) : Calls Tryz.prog 24 #[.pointer none] w fun e w' => e = .returned (.slice none 0 0) ∧ w' = w := by
  go_enter Tryz.func24, Tryz.ntmps24
  go_wp2_with fail
  refine (answers_nil w).mono ?_
  rintro e w1 ⟨rfl, rfl⟩
  go_wp2_with fail
  go_ret
  exact ⟨rfl, rfl⟩

set_option maxHeartbeats 400000 in
theorem off_any (bd bm : Nat) (off : Bool) (w : World) (h0 : w.cell? ⟨bd, 0, none⟩ = some (.map (some bm))) (h3 : w.cell? ⟨bd, 3, none⟩ = some (.bool off)) :
    Calls Tryz.prog 23 #[.pointer (some ⟨bd, 0, none⟩)] w fun e w' => e = .returned (.bool off) ∧ w' = w := by
  go_enter Tryz.func23, Tryz.ntmps23
  go_wp2_with fail
  refine (answers_any bd bm off w h0 h3).mono ?_
  rintro e w1 ⟨rfl, rfl⟩
  cases off
  all_goals
    go_wp2_with fail
    go_ret
    exact ⟨rfl, rfl⟩

/-- A disk that was just made. -/
def fresh (q : Int) : St := { F := [], quota := q, fuse := -1, off := false }
def NewPost (q : Int) (w : World) (e : Ending) (w' : World) : Prop :=
  if 0 ≤ q ∧ q ≤ 4194304 then ∃ ρ bd, e = .returned (.tuple #[.pointer (some ⟨bd, 0, none⟩), .int .i64 0]) ∧ Rep ρ w' bd (fresh q) ∧ (∀ b, b < w.heap.size → ρ b = none) ∧ Below w.heap.size w w'
  else e = .returned (.tuple #[.pointer none, .int .i64 1]) ∧ w' = w

set_option maxHeartbeats 400000 in
theorem new_any (q : Int) (w : World) : Calls Tryz.prog 5 #[.int .i64 q] w (NewPost q w) := by
  have hmm := @run_makeMap Tryz.prog
  by_cases h0 : 0 ≤ q
  · by_cases h1 : q ≤ 4194304
    · have hc : 0 ≤ q ∧ q ≤ 4194304 := ⟨h0, h1⟩
      have k0 : decide (q < 0) = false := by simpa using h0
      have k1 : decide (q > 4194304) = false := by simpa using h1
      have Hc := Lib.hid hc
      clear hc
      go_enter Tryz.func5, Tryz.ntmps5
      go_wp2
      go_ret2
      unfold NewPost
      rw [if_pos Hc.out]
      obtain ⟨e1, e2⟩ := heap_two w (Obj.map #[] 0) (Obj.cells #[Value.map (some w.heap.size), Value.int IntKind.i64 q, Value.int IntKind.i64 (-1), Value.bool false] 58)
      have hb : Below w.heap.size w ((w.alloc (Obj.map #[] 0)).alloc (Obj.cells #[Value.map (some w.heap.size), Value.int IntKind.i64 q, Value.int IntKind.i64 (-1), Value.bool false] 58)) :=
        ((Below.refl _ w).alloc (Nat.le_refl _) _).alloc (by simp) _
      refine ⟨fun b => if b = w.heap.size then some .map else if b = w.heap.size + 1 then some .disk else none, w.heap.size + 1, rfl, ⟨w.heap.size, fun _ => 0, fun _ => .slice none 0 0, ?_⟩, ?_, hb⟩
      · refine ⟨?_, ?_, ?_, e2, ?_, ?_, ?_, ?_, ?_⟩
        · intro b r hr
          have : b = w.heap.size ∨ b = w.heap.size + 1 := by
            by_cases h1 : b = w.heap.size
            · exact .inl h1
            · rw [if_neg h1] at hr
              by_cases h2 : b = w.heap.size + 1
              · exact .inr h2
              · rw [if_neg h2] at hr; cases hr
          simp
          omega
        · simp
        · simp
        · exact ownsMap_block (World.ownsMap_made w Tryz.prog 9 Rp) (by rw [e1]; exact (heap_alloc_new w _).symm)
        all_goals exact fun x hx => by cases hx
      · intro b hb
        show (if b = w.heap.size then some Role.map else if b = w.heap.size + 1 then some Role.disk else none) = none
        rw [if_neg (by omega), if_neg (by omega)]
    · have hc : ¬ (0 ≤ q ∧ q ≤ 4194304) := fun h => h1 h.2
      have k0 : decide (q < 0) = false := by simpa using h0
      have k1 : decide (q > 4194304) = true := by simpa using h1
      have Hc := Lib.hid hc
      clear hc h1
      go_enter Tryz.func5, Tryz.ntmps5
      go_wp2
      go_ret2
      unfold NewPost
      rw [if_neg Hc.out]
      exact ⟨rfl, rfl⟩
  · have hc : ¬ (0 ≤ q ∧ q ≤ 4194304) := fun h => h0 h.1
    have k0 : decide (q < 0) = true := by simpa using h0
    have Hc := Lib.hid hc
    clear hc h0
    go_enter Tryz.func5, Tryz.ntmps5
    go_wp2
    go_ret2
    unfold NewPost
    rw [if_neg Hc.out]
    exact ⟨rfl, rfl⟩
end Go.Proofs.YtjlchphbkmaacaaGreatDoor
