/- A region that draws its order and ends in a write: what is read may be taken first, as long as that write has not come up; behind it nothing is asked of the world any more. -/
import Derived.WalkKit
import Derived.Deep.RegionHeld3
import Derived.Deep.RegionWith
set_option linter.unusedVariables false
set_option linter.unusedSimpArgs false
namespace Go.Proofs.YtjlchphbkmaacaaGreatDoor
open Go
namespace Late
section
variable {P : Program} {ops : Array Oper} {Q : Exit → Act → World → Prop} {md : Region.Mode} {S : World → Prop} {L : Nat}

/-- Whatever order is picked; S holds behind each operation till number L has come up. -/
def any (P : Program) (md : Region.Mode) (ops : Array Oper) (Q : Exit → Act → World → Prop) (S : World → Prop) (L : Nat) : Nat → Array Bool → Act → World → Prop
  | 0, listed, a, w => Region.ready md ops listed = [] ∧ Q .normal a w
  | fuel + 1, listed, a, w =>
    (Region.ready md ops listed = [] → Q .normal a w) ∧
    ∀ i ∈ Region.ready md ops listed, wpOp P ops Q i (fun a' w' => ((listed.setIfInBounds i true).getD L true = false → S w') ∧ any P md ops Q S L fuel (listed.setIfInBounds i true) a' w') a w

theorem any_any : ∀ (fuel : Nat) (listed : Array Bool) (a : Act) (w : World), any P md ops Q S L fuel listed a w → wpAny P md ops Q fuel listed a w
  | 0, _, _, _, h => h
  | fuel + 1, _, _, _, h => ⟨h.1, fun i hi => wpOp_mono (fun a' w' h' => any_any fuel _ a' w' h'.2) (h.2 i hi)⟩

/-- Does number L wait for number i? -/
def waits (md : Region.Mode) (ops : Array Oper) (L i : Nat) : Bool :=
  match ops[L]? with
  | some o => o.after.toList.any fun e => Region.binds md e && e.on == i
  | none => false

theorem first {i : Nat} {oi : Oper} {v : Value} (hi : ops[i]? = some oi) (hsel : ∀ (j : Nat) (o : Oper) cs b, ops[j]? = some o → o.op ≠ .select cs b)
    (hQ : ∀ c a w, Q (.panic c) (a.put oi.dst v) w → Q (.panic c) a w) (hL : waits md ops L i = true) (hne : i ≠ L) :
    ∀ (fuel : Nat) (listed : Array Bool) (a : Act) (w : World),
      (∀ j oj, ops[j]? = some oj → j ≠ i → listed.getD j true = false → (∀ e ∈ oj.after, Region.binds md e = true → e.on ≠ i) → oi.apart ops oj = true) →
      i ∈ Region.ready md ops listed → listed.getD L true = false → YieldsIf P ops S oi v a → S w →
      any P md ops Q S L fuel (listed.setIfInBounds i true) (a.put oi.dst v) w → any P md ops Q S L (fuel + 1) listed a w := by
  intro fuel
  induction fuel with
  | zero =>
    intro listed a w _ hr _ hy hS H
    refine ⟨fun h => (by rw [h] at hr; cases hr), fun j hj => ?_⟩
    by_cases hji : j = i
    · subst hji
      exact hy.wpOp hi hS ⟨fun _ => hS, H⟩
    · have := ready_mono hj hji
      rw [H.1] at this
      cases this
  | succ fuel ih =>
    intro listed a w hfree hr hun hy hS H
    refine ⟨fun h => (by rw [h] at hr; cases hr), fun j hj => ?_⟩
    by_cases hji : j = i
    · subst hji
      exact hy.wpOp hi hS ⟨fun _ => hS, H⟩
    · have h1 := H.2 j (ready_mono hj hji)
      obtain ⟨hjun, oj, hoj, hall⟩ := mem_ready.1 hj
      have hiun := (mem_ready.1 hr).1
      have hlt : i < listed.size := by
        rcases Nat.lt_or_ge i listed.size with h' | h'
        · exact h'
        · simp [Array.getElem?_eq_none h'] at hiun
      have hifalse : listed.getD i false = false := by
        simp [hlt] at hiun ⊢
        exact hiun
      have hnot : ∀ e ∈ oj.after, Region.binds md e = true → e.on ≠ i := fun e he hb heq => by
        have h1 := hall e he hb
        rw [heq, hifalse] at h1
        cases h1
      have hjL : j ≠ L := by
        rintro rfl
        unfold waits at hL
        rw [hoj] at hL
        obtain ⟨e, he, hb⟩ := List.any_eq_true.1 hL
        simp only [Bool.and_eq_true, beq_iff_eq] at hb
        exact hnot e (Array.mem_toList_iff.1 he) hb.1 hb.2
      have hun' : (listed.setIfInBounds j true).getD L true = false := by rw [getD_set_ne true hjL]; exact hun
      have h2 := wpOp_putIf hoj (hfree j oj hoj hji hjun hnot) (fun cs b => hsel i oi cs b hi) (fun cs b => hsel j oj cs b hoj) hQ hy h1
      have hfree' : ∀ k ok, ops[k]? = some ok → k ≠ i → (listed.setIfInBounds j true).getD k true = false →
          (∀ e ∈ ok.after, Region.binds md e = true → e.on ≠ i) → oi.apart ops ok = true := fun k ok hk hki hun hno => by
        refine hfree k ok hk hki ?_ hno
        by_cases hjk : j = k
        · subst hjk; exact hjun
        · rw [getD_set_ne true hjk] at hun; exact hun
      refine wpOp_mono (fun a' w' h3 => ?_) h2
      have hS' : S w' := h3.2.1 (by
        rw [Array.setIfInBounds_comm _ _ (Ne.symm hji), getD_set_ne true hne]
        exact hun')
      refine ⟨fun _ => hS', ih (listed.setIfInBounds j true) a' w' hfree' (ready_mono hr (Ne.symm hji)) hun' h3.1 hS' ?_⟩
      rw [Array.setIfInBounds_comm _ _ hji]
      exact h3.2.2

theorem take {i : Nat} {oi : Oper} {v : Value} {fuel : Nat} {listed : Array Bool} {a : Act} {w : World} (hi : ops[i]? = some oi)
    (hs : Region.noSelect ops = true) (hf : Region.free md ops listed i = true) (hr : (Region.ready md ops listed).contains i = true)
    (hQ : ∀ c a w, Q (.panic c) (a.put oi.dst v) w → Q (.panic c) a w) (hL : (waits md ops L i && !(i == L) && !(listed.getD L true)) = true) (hy : YieldsIf P ops S oi v a) (hS : S w)
    (h : any P md ops Q S L fuel (listed.setIfInBounds i true) (a.put oi.dst v) w) : any P md ops Q S L (fuel + 1) listed a w := by
  simp only [Bool.and_eq_true, Bool.not_eq_true', beq_eq_false_iff_ne] at hL
  exact first hi (Region.noSelect_spec hs) hQ hL.1.1 hL.1.2 fuel listed a w (Region.free_spec hi hf) (by simpa using hr) hL.2 hy hS h

/-- The one operation that may come up comes up: behind it S is to be shown anew, unless it is the write. -/
theorem step {i : Nat} {o : Oper} {fuel : Nat} {listed : Array Bool} {a : Act} {w : World} (hr : Region.ready md ops listed = [i]) (ho : ops[i]? = some o)
    (h : ∀ K' : Act → World → Prop, Shut (∀ a w, S w → (S w → any P md ops Q S L fuel (listed.setIfInBounds i true) a w) → K' a w) → if Region.wanted o (yielded ops a.tmps) = true then Oper.wp P o a w K' Q else K' (a.put o.dst undef) w) :
    any P md ops Q S L (fuel + 1) listed a w :=
  ⟨(fun h0 => by rw [hr] at h0; cases h0), fun j hj => by
    rw [hr] at hj
    obtain rfl := List.mem_singleton.1 hj
    exact wpOp_step ho fun K hK => h K fun a w hS hW => hK a w ⟨fun _ => hS, hW hS⟩⟩
/-- The write comes up. -/
theorem last {o : Oper} {fuel : Nat} {listed : Array Bool} {a : Act} {w : World} (hr : Region.ready md ops listed = [L]) (ho : ops[L]? = some o) (hlt : (listed.setIfInBounds L true).getD L true = true)
    (h : ∀ K' : Act → World → Prop, Shut (∀ a w, any P md ops Q S L fuel (listed.setIfInBounds L true) a w → K' a w) → if Region.wanted o (yielded ops a.tmps) = true then Oper.wp P o a w K' Q else K' (a.put o.dst undef) w) :
    any P md ops Q S L (fuel + 1) listed a w :=
  ⟨(fun h0 => by rw [hr] at h0; cases h0), fun j hj => by
    rw [hr] at hj
    obtain rfl := List.mem_singleton.1 hj
    exact wpOp_step ho fun K hK => h K fun a w hW => hK a w ⟨fun h1 => (by rw [hlt] at h1; cases h1), hW⟩⟩
/-- Behind the write: whatever comes up. -/
theorem after {i : Nat} {o : Oper} {fuel : Nat} {listed : Array Bool} {a : Act} {w : World} (hr : Region.ready md ops listed = [i]) (ho : ops[i]? = some o) (hlt : (listed.setIfInBounds i true).getD L true = true)
    (h : ∀ K' : Act → World → Prop, Shut (∀ a w, any P md ops Q S L fuel (listed.setIfInBounds i true) a w → K' a w) → if Region.wanted o (yielded ops a.tmps) = true then Oper.wp P o a w K' Q else K' (a.put o.dst undef) w) :
    any P md ops Q S L (fuel + 1) listed a w :=
  ⟨(fun h0 => by rw [hr] at h0; cases h0), fun j hj => by
    rw [hr] at hj
    obtain rfl := List.mem_singleton.1 hj
    exact wpOp_step ho fun K hK => h K fun a w hW => hK a w ⟨fun h1 => (by rw [hlt] at h1; cases h1), hW⟩⟩
theorem done {listed : Array Bool} {a : Act} {w : World} (hr : Region.ready md ops listed = []) (h : Q .normal a w) : ∀ fuel, any P md ops Q S L fuel listed a w
  | 0 => ⟨hr, h⟩
  | _ + 1 => ⟨fun _ => h, by rw [hr]; simp⟩
/-- The beginning. -/
theorem start {id : Nat} {a : Act} {w : World} (S : World → Prop) (L : Nat) (hm : P.follows .mixedOrders = true) (hS : S w.drew)
    (h : S w.drew → any P .any ops Q S L ops.size (Array.replicate ops.size false) a w.drew) : (Code.region id ops true).wp P Q a w :=
  wp_region_any hm (any_any _ _ _ _ (h hS))
end
end Late

/-! ### The same with a second condition T, which holds throughout -/
namespace Two
section
variable {P : Program} {ops : Array Oper} {Q : Exit → Act → World → Prop} {md : Region.Mode} {S T : World → Prop} {L : Nat}

/-- Whatever order is picked; T holds behind each operation, and S till number L has come up. -/
def any (P : Program) (md : Region.Mode) (ops : Array Oper) (Q : Exit → Act → World → Prop) (S T : World → Prop) (L : Nat) : Nat → Array Bool → Act → World → Prop
  | 0, listed, a, w => Region.ready md ops listed = [] ∧ Q .normal a w
  | fuel + 1, listed, a, w =>
    (Region.ready md ops listed = [] → Q .normal a w) ∧
    ∀ i ∈ Region.ready md ops listed, wpOp P ops Q i (fun a' w' => (T w' ∧ ((listed.setIfInBounds i true).getD L true = false → S w')) ∧ any P md ops Q S T L fuel (listed.setIfInBounds i true) a' w') a w

theorem any_any : ∀ (fuel : Nat) (listed : Array Bool) (a : Act) (w : World), any P md ops Q S T L fuel listed a w → wpAny P md ops Q fuel listed a w
  | 0, _, _, _, h => h
  | fuel + 1, _, _, _, h => ⟨h.1, fun i hi => wpOp_mono (fun a' w' h' => any_any fuel _ a' w' h'.2) (h.2 i hi)⟩

/-- What must be known where number i is taken first: R is T alone, or T and S where L waits for i. -/
theorem first {R : World → Prop} {i : Nat} {oi : Oper} {v : Value} (hi : ops[i]? = some oi) (hsel : ∀ (j : Nat) (o : Oper) cs b, ops[j]? = some o → o.op ≠ .select cs b)
    (hQ : ∀ c a w, Q (.panic c) (a.put oi.dst v) w → Q (.panic c) a w) (hne : i ≠ L)
    (hR : (∀ w, T w → R w) ∨ (Late.waits md ops L i = true ∧ ∀ w, T w → S w → R w)) :
    ∀ (fuel : Nat) (listed : Array Bool) (a : Act) (w : World),
      (∀ j oj, ops[j]? = some oj → j ≠ i → listed.getD j true = false → (∀ e ∈ oj.after, Region.binds md e = true → e.on ≠ i) → oi.apart ops oj = true) →
      i ∈ Region.ready md ops listed → YieldsIf P ops R oi v a → (T w ∧ (listed.getD L true = false → S w)) → ((∀ w, T w → R w) ∨ listed.getD L true = false) →
      any P md ops Q S T L fuel (listed.setIfInBounds i true) (a.put oi.dst v) w → any P md ops Q S T L (fuel + 1) listed a w := by
  intro fuel
  induction fuel with
  | zero =>
    intro listed a w _ hr hy hS hun H
    have hRw : R w := by
      rcases hun with h | h
      · exact h w hS.1
      · rcases hR with h1 | h1
        · exact h1 w hS.1
        · exact h1.2 w hS.1 (hS.2 h)
    refine ⟨fun h => (by rw [h] at hr; cases hr), fun j hj => ?_⟩
    by_cases hji : j = i
    · subst hji
      refine hy.wpOp hi hRw ⟨⟨hS.1, fun h => hS.2 ?_⟩, H⟩
      rw [getD_set_ne true hne] at h
      exact h
    · have := ready_mono hj hji
      rw [H.1] at this
      cases this
  | succ fuel ih =>
    intro listed a w hfree hr hy hS hun H
    have hRw : R w := by
      rcases hun with h | h
      · exact h w hS.1
      · rcases hR with h1 | h1
        · exact h1 w hS.1
        · exact h1.2 w hS.1 (hS.2 h)
    refine ⟨fun h => (by rw [h] at hr; cases hr), fun j hj => ?_⟩
    by_cases hji : j = i
    · subst hji
      refine hy.wpOp hi hRw ⟨⟨hS.1, fun h => hS.2 ?_⟩, H⟩
      rw [getD_set_ne true hne] at h
      exact h
    · have h1 := H.2 j (ready_mono hj hji)
      obtain ⟨hjun, oj, hoj, hall⟩ := mem_ready.1 hj
      have hiun := (mem_ready.1 hr).1
      have hlt : i < listed.size := by
        rcases Nat.lt_or_ge i listed.size with h' | h'
        · exact h'
        · simp [Array.getElem?_eq_none h'] at hiun
      have hifalse : listed.getD i false = false := by
        simp [hlt] at hiun ⊢
        exact hiun
      have hnot : ∀ e ∈ oj.after, Region.binds md e = true → e.on ≠ i := fun e he hb heq => by
        have h1 := hall e he hb
        rw [heq, hifalse] at h1
        cases h1
      have hun' : (∀ w, T w → R w) ∨ (listed.setIfInBounds j true).getD L true = false := by
        rcases hun with h | h
        · exact .inl h
        · rcases hR with h1 | h1
          · exact .inl h1
          · refine .inr ?_
            have hjL : j ≠ L := by
              rintro rfl
              have hL := h1.1
              unfold Late.waits at hL
              rw [hoj] at hL
              obtain ⟨e, he, hb⟩ := List.any_eq_true.1 hL
              simp only [Bool.and_eq_true, beq_iff_eq] at hb
              exact hnot e (Array.mem_toList_iff.1 he) hb.1 hb.2
            rw [getD_set_ne true hjL]
            exact h
      have h2 := wpOp_putIf hoj (hfree j oj hoj hji hjun hnot) (fun cs b => hsel i oi cs b hi) (fun cs b => hsel j oj cs b hoj) hQ hy h1
      have hfree' : ∀ k ok, ops[k]? = some ok → k ≠ i → (listed.setIfInBounds j true).getD k true = false →
          (∀ e ∈ ok.after, Region.binds md e = true → e.on ≠ i) → oi.apart ops ok = true := fun k ok hk hki hun hno => by
        refine hfree k ok hk hki ?_ hno
        by_cases hjk : j = k
        · subst hjk; exact hjun
        · rw [getD_set_ne true hjk] at hun; exact hun
      refine wpOp_mono (fun a' w' h3 => ?_) h2
      have hS' : T w' ∧ ((listed.setIfInBounds j true).getD L true = false → S w') := ⟨h3.2.1.1, fun h => h3.2.1.2 (by
        rw [Array.setIfInBounds_comm _ _ (Ne.symm hji), getD_set_ne true hne]
        exact h)⟩
      refine ⟨hS', ih (listed.setIfInBounds j true) a' w' hfree' (ready_mono hr (Ne.symm hji)) h3.1 hS' hun' ?_⟩
      rw [Array.setIfInBounds_comm _ _ hji]
      exact h3.2.2

/-- What hangs on T alone. -/
theorem takeT {i : Nat} {oi : Oper} {v : Value} {fuel : Nat} {listed : Array Bool} {a : Act} {w : World} (hi : ops[i]? = some oi)
    (hs : Region.noSelect ops = true) (hf : Region.free md ops listed i = true) (hr : (Region.ready md ops listed).contains i = true)
    (hQ : ∀ c a w, Q (.panic c) (a.put oi.dst v) w → Q (.panic c) a w) (hL : (!(i == L) && !(listed.getD L true)) = true) (hy : YieldsIf P ops T oi v a) (hS : T w ∧ S w)
    (h : any P md ops Q S T L fuel (listed.setIfInBounds i true) (a.put oi.dst v) w) : any P md ops Q S T L (fuel + 1) listed a w := by
  simp only [Bool.and_eq_true, Bool.not_eq_true', beq_eq_false_iff_ne] at hL
  exact first hi (Region.noSelect_spec hs) hQ hL.1 (.inl fun _ h => h) fuel listed a w (Region.free_spec hi hf) (by simpa using hr) hy ⟨hS.1, fun _ => hS.2⟩ (.inl fun _ h => h) h
/-- What hangs on S, too. -/
theorem takeS {i : Nat} {oi : Oper} {v : Value} {fuel : Nat} {listed : Array Bool} {a : Act} {w : World} (hi : ops[i]? = some oi)
    (hs : Region.noSelect ops = true) (hf : Region.free md ops listed i = true) (hr : (Region.ready md ops listed).contains i = true)
    (hQ : ∀ c a w, Q (.panic c) (a.put oi.dst v) w → Q (.panic c) a w) (hL : (Late.waits md ops L i && !(i == L) && !(listed.getD L true)) = true) (hy : YieldsIf P ops (fun w => T w ∧ S w) oi v a) (hS : T w ∧ S w)
    (h : any P md ops Q S T L fuel (listed.setIfInBounds i true) (a.put oi.dst v) w) : any P md ops Q S T L (fuel + 1) listed a w := by
  simp only [Bool.and_eq_true, Bool.not_eq_true', beq_eq_false_iff_ne] at hL
  exact first hi (Region.noSelect_spec hs) hQ hL.1.2 (.inr ⟨hL.1.1, fun _ h1 h2 => ⟨h1, h2⟩⟩) fuel listed a w (Region.free_spec hi hf) (by simpa using hr) hy ⟨hS.1, fun _ => hS.2⟩ (.inr hL.2) h

/-- The one operation that may come up comes up, ahead of the write. -/
theorem step {i : Nat} {o : Oper} {fuel : Nat} {listed : Array Bool} {a : Act} {w : World} (hr : Region.ready md ops listed = [i]) (ho : ops[i]? = some o)
    (h : ∀ K' : Act → World → Prop, Shut (∀ a w, (T w ∧ S w) → ((T w ∧ S w) → any P md ops Q S T L fuel (listed.setIfInBounds i true) a w) → K' a w) → if Region.wanted o (yielded ops a.tmps) = true then Oper.wp P o a w K' Q else K' (a.put o.dst undef) w) :
    any P md ops Q S T L (fuel + 1) listed a w :=
  ⟨(fun h0 => by rw [hr] at h0; cases h0), fun j hj => by
    rw [hr] at hj
    obtain rfl := List.mem_singleton.1 hj
    exact wpOp_step ho fun K hK => h K fun a w hS hW => hK a w ⟨⟨hS.1, fun _ => hS.2⟩, hW hS⟩⟩
/-- The write, and whatever comes up behind it. -/
theorem after {i : Nat} {o : Oper} {fuel : Nat} {listed : Array Bool} {a : Act} {w : World} (hr : Region.ready md ops listed = [i]) (ho : ops[i]? = some o) (hlt : (listed.setIfInBounds i true).getD L true = true)
    (h : ∀ K' : Act → World → Prop, Shut (∀ a w, T w → (T w → any P md ops Q S T L fuel (listed.setIfInBounds i true) a w) → K' a w) → if Region.wanted o (yielded ops a.tmps) = true then Oper.wp P o a w K' Q else K' (a.put o.dst undef) w) :
    any P md ops Q S T L (fuel + 1) listed a w :=
  ⟨(fun h0 => by rw [hr] at h0; cases h0), fun j hj => by
    rw [hr] at hj
    obtain rfl := List.mem_singleton.1 hj
    exact wpOp_step ho fun K hK => h K fun a w hT hW => hK a w ⟨⟨hT, fun h1 => (by rw [hlt] at h1; cases h1)⟩, hW hT⟩⟩
theorem done {listed : Array Bool} {a : Act} {w : World} (hr : Region.ready md ops listed = []) (h : Q .normal a w) : ∀ fuel, any P md ops Q S T L fuel listed a w
  | 0 => ⟨hr, h⟩
  | _ + 1 => ⟨fun _ => h, by rw [hr]; simp⟩
/-- The beginning. -/
theorem start {id : Nat} {a : Act} {w : World} (T S : World → Prop) (L : Nat) (hm : P.follows .mixedOrders = true) (hS : T w.drew ∧ S w.drew)
    (h : (T w.drew ∧ S w.drew) → any P .any ops Q S T L ops.size (Array.replicate ops.size false) a w.drew) : (Code.region id ops true).wp P Q a w :=
  wp_region_any hm (any_any _ _ _ _ (h hS))
end
end Two
end Go.Proofs.YtjlchphbkmaacaaGreatDoor
