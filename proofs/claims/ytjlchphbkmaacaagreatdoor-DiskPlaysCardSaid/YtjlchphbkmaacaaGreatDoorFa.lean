/- A copy of bytes. -/
import Derived.Test.YtjlchphbkmaacaaGreatDoorEg
import Derived.Test.YtjlchphbkmaacaaGreatDoorEi
import Derived.Test.YtjlchphbkmaacaaGreatDoorEj
set_option linter.unusedVariables false
set_option linter.unusedSimpArgs false
namespace Go.Proofs.YtjlchphbkmaacaaGreatDoor
open Go.RowKit Go.MapKept Go.ChangeMaps Go.Maps
attribute [local go_sem ↓] Go.wp_at_zero Go.wp_at_succ
open Dk

/-- An append whose run is known, in a walk. -/
theorem wpList_append_run {P : Program} {ops : Array Oper} {rest : List Oper} {o : Oper} {a : Act} {w w' : World} {Q : Exit → Act → World → Prop} (hgd : o.guard = none) (s x : Operand) (t : TypeId)
    (ho : o.op = .call { callee := .builtin .append, args := #[s, x], argTypes := #[t, t] }) (v xv v' : Value) (hs : a.eval s = v) (hx : a.eval x = xv) (hr : (Builtin.append_ #[t, t] o.type #[v, xv]).run P w = .ok v' w')
    (h : wpList P ops Q rest (a.put o.dst v') w') : wpList P ops Q (o :: rest) a w :=
  wpList_plain hgd fun _ hK => by
    unfold Oper.wp execOp
    simp only [ho, resolve, invoke, builtin, Sem.run_bind, Sem.run_pure, Result.andThen_ok, List.map_toArray, List.map_cons, List.map_nil, hs, hx, hr]
    exact hK _ _ h

def OwnPost (w : World) (m : Nat) (bs : List UInt8) (e : Ending) (w' : World) : Prop :=
  ∃ p c, e = .returned (.slice p m c) ∧ w'.ownsRow w.heap.size 5 1 (.slice p m c) bs.length (bs.map encU8) ∧ Below w.heap.size w w'

theorem Dk.own_base {w : World} {b b' : Nat} {e : TypeId} {v : Value} {n : Nat} {xs : List Value} (h : w.ownsRow b e 1 v n xs) (hb : ∀ g, v.ownBlock = some g → b' ≤ g) : w.ownsRow b' e 1 v n xs := by
  obtain ⟨h1, h2⟩ := h
  refine ⟨h1, h2.imp id ?_⟩
  rintro ⟨g, cap, cur, e1, _, r⟩
  exact ⟨g, cap, cur, e1, hb g (by rw [e1]; rfl), r⟩

set_option maxRecDepth 100000 in
set_option maxHeartbeats 400000 in
theorem own_any (w : World) (p : Option Addr) (m c : Nat) (bs : List UInt8) (hp : BytesAt w p m bs) (hpc : p = none → c = 0) (hm : m ≤ 140737488355328) :
    Calls Tryz.prog 26 #[.slice p m c] w (OwnPost w m bs) := by
  obtain ⟨v', w', hrun, h1, h2, h3⟩ := app_bytes w (.slice none 0 0) [] bs (World.ownsRow_nil _ _ _ _) p m c hp hpc (by simpa using hm) 31
  rw [List.nil_append] at h1
  have hb : Below w.heap.size w w' := (Below.refl _ _).grown h2 (Nat.le_refl _) (fun r hr => by cases hr)
  have hown : w'.ownsRow w.heap.size 5 1 v' bs.length (bs.map encU8) := own_base h1 fun g hg => by
    rcases h3 with h | h
    · rw [h] at hg; cases hg
    · rw [h] at hg; cases hg; exact Nat.le_refl _
  obtain ⟨q, d, rfl⟩ := own_slice hown
  have HO := Lib.hid hown
  have HB := Lib.hid hb
  have HL := Lib.hid hp.len
  have HR := Lib.hid hrun
  clear h1 h2 h3 hown hb hp hpc hrun
  go_enter Tryz.func26, Tryz.ntmps26
  go_wp2_with (first
    | (at_builtin; refine wpList_append_run rfl _ _ 31 rfl _ _ _ rfl rfl HR.out ?_)
    | fail)
  go_ret
  have e := HL.out
  have ho := HO.out
  exact ⟨q, d, by rw [e]; rfl, by rw [e] at ho; rw [e]; exact ho, HB.out⟩

section
variable {ρ : Nat → Option Role} {w w' : World} {bd : Nat} {s : St} {bm : Nat} {blk : Nm → Nat} {dv : Nm → Value}
/-- Memory beside the disk is written. -/
theorem Dk.RepX.beside (h : RepX ρ w bd s bm blk dv) (hsz : w.heap.size ≤ w'.heap.size) (hb : ∀ b r, ρ b = some r → w'.heap[b]? = w.heap[b]?) : RepX ρ w' bd s bm blk dv where
  lt := fun b r hr => Nat.lt_of_lt_of_le (h.lt b r hr) hsz
  rd := h.rd
  rm := h.rm
  hd := (hb bd _ h.rd).trans h.hd
  hm := ownsMap_block h.hm (hb bm _ h.rm)
  rf := h.rf
  hf := fun x hx => (hb _ _ (h.rf x hx)).trans (h.hf x hx)
  hv := fun x hx => ownsRow_block (h.hv x hx) fun g hg => hb _ _ (h.rv x hx g hg)
  rv := h.rv
theorem Dk.Rep.setCell (h : Rep ρ w bd s) {a : Addr} (ha : ρ a.block = none) (v : Value) : Rep ρ (w.setCell a v) bd s := by
  obtain ⟨bm, blk, dv, h⟩ := h
  refine ⟨bm, blk, dv, h.beside (by rw [World.size_setCell]; exact Nat.le_refl _) fun b r hr => Below.heap_setCell w a v b ?_⟩
  rintro rfl
  rw [ha] at hr
  cases hr
end
end Go.Proofs.YtjlchphbkmaacaaGreatDoor
