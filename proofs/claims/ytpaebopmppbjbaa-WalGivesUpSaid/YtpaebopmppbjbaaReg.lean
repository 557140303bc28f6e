/- A region that draws its order, by an invariant over what is done: no order is walked. No program in sight. -/
import Derived.Test.YtpaebopmppbjbaaVals
set_option linter.unusedVariables false
set_option linter.unusedSimpArgs false
namespace Go.Le
open Go Go.RowKit

section
variable {P : Program} {md : Region.Mode} {n : Nat} {ops : List Oper} {Q : Exit → Act → World → Prop}

/-- what operation o finds in a slot -/
def finds2 (md : Region.Mode) (ops : List Oper) (V : Nat → Value → Prop) (a0 : Act) (o : Oper) (a : Act) (d : Tmp) : Prop :=
  match writer ops d with
  | some j => if waits md o j = true then V j (a.eval (.tmp d)) else a.eval (.tmp d) = a0.eval (.tmp d)
  | none => a.eval (.tmp d) = a0.eval (.tmp d)
/-- what a slot holds, where these operations are done -/
def holds2 (ops : List Oper) (V : Nat → Value → Prop) (a0 : Act) (listed : Array Bool) (a : Act) (d : Tmp) : Prop :=
  match writer ops d with
  | some j => if listed.getD j true = true then V j (a.eval (.tmp d)) else a.eval (.tmp d) = a0.eval (.tmp d)
  | none => a.eval (.tmp d) = a0.eval (.tmp d)
/-- what a slot holds at the end -/
def ends2 (ops : List Oper) (V : Nat → Value → Prop) (a0 : Act) (a : Act) (d : Tmp) : Prop :=
  match writer ops d with
  | some j => V j (a.eval (.tmp d))
  | none => a.eval (.tmp d) = a0.eval (.tmp d)

/-- every operation does as is said -/
def Does2 (P : Program) (md : Region.Mode) (ops : List Oper) (Q : Exit → Act → World → Prop) (I : Array Bool → Act → World → Prop) (V : Nat → Value → Prop) (a0 : Act) (i : Nat) (o : Oper) : Prop :=
  ∀ (listed : Array Bool) (a : Act) (w : World) (K : Act → World → Prop), listed.size = ops.length → listed.getD i true = false → (∀ j, waits md o j = true → listed.getD j true = true) → (∀ (j : Nat) (o' : Oper), ops[j]? = some o' → listed.getD j true = true → ∀ i, waits md o' i = true → listed.getD i true = true) → I listed a w → a.tmps.size = a0.tmps.size → a.defers = a0.defers →
    (∀ d ∈ o.looksAt ops.toArray, finds2 md ops V a0 o a d) → (∀ v w', V i v → I (listed.setIfInBounds i true) (a.put o.dst v) w' → K (a.put o.dst v) w') →
    if Region.wanted o (yielded ops.toArray a.tmps) then o.wp P a w K Q else K (a.put o.dst undef) w

theorem wpAny_gen (I : Array Bool → Act → World → Prop) (V : Nat → Value → Prop) (a0 : Act) (hok : shaped md ops a0.tmps.size = true)
    (hops : ∀ i o, ops[i]? = some o → Does2 P md ops Q I V a0 i o)
    (hq : ∀ listed a w, (∀ i, i < ops.length → listed.getD i true = true) → listed.size = ops.length → I listed a w → a.tmps.size = a0.tmps.size → a.defers = a0.defers → (∀ d, ends2 ops V a0 a d) → Q .normal a w) :
    ∀ (fuel : Nat) (listed : Array Bool) (a : Act) (w : World), listed.size = ops.length → left ops.length listed ≤ fuel → I listed a w → a.tmps.size = a0.tmps.size → a.defers = a0.defers → (∀ d, holds2 ops V a0 listed a d) → (∀ (j : Nat) (o' : Oper), ops[j]? = some o' → listed.getD j true = true → ∀ i, waits md o' i = true → listed.getD i true = true) →
      wpAny P md ops.toArray Q fuel listed a w := by
  have fin : ∀ (listed : Array Bool) (a : Act) (w : World), (∀ i, i < ops.length → listed.getD i true = true) → listed.size = ops.length → I listed a w → a.tmps.size = a0.tmps.size → a.defers = a0.defers → (∀ d, holds2 ops V a0 listed a d) → Q .normal a w := by
    intro listed a w hall hls hR hs hd hh
    refine hq listed a w hall hls hR hs hd fun d => ?_
    have := hh d
    unfold holds2 at this
    unfold ends2
    split at this
    · rename_i j hj
      have hjl : j < ops.length := (List.findIdx?_eq_some_iff_getElem.1 hj).1
      rw [hall j hjl] at this
      simpa using this
    · exact this
  intro fuel
  induction fuel with
  | zero =>
    intro listed a w hls hleft hR hs hd hh hcl
    have hall : ∀ i, i < ops.length → listed.getD i true = true := by
      intro i hi
      have h0 : left ops.length listed = 0 := by omega
      unfold left at h0
      rw [List.countP_eq_zero] at h0
      have := h0 i (List.mem_range.2 hi)
      simpa using this
    refine ⟨?_, fin listed a w hall hls hR hs hd hh⟩
    unfold Region.ready
    rw [List.filter_eq_nil_iff]
    intro i hi
    rw [hall i (by simpa using hi)]
    simp
  | succ fuel ih =>
    intro listed a w hls hleft hR hs hd hh hcl
    refine ⟨fun hr => fin listed a w (all_listed hok listed hls hr) hls hR hs hd hh, fun i hi => ?_⟩
    unfold Region.ready at hi
    rw [List.mem_filter] at hi
    obtain ⟨hi1, hi2⟩ := hi
    have hil : i < ops.length := by simpa using hi1
    have ho : ops[i]? = some ops[i] := List.getElem?_eq_getElem hil
    simp only [List.getElem?_toArray, ho, Option.map_some, Option.getD_some, Bool.and_eq_true, Bool.not_eq_true'] at hi2
    obtain ⟨hun, haft⟩ := hi2
    have hsh := shaped_at hok i _ ho
    have hdo := hops i _ ho
    unfold wpOp
    simp only [List.getElem?_toArray, ho]
    have hfinds : ∀ d ∈ (ops[i]).looksAt ops.toArray, finds2 md ops V a0 ops[i] a d := by
      intro d hd'
      have h1 := hh d
      unfold holds2 at h1
      unfold finds2
      split
      · rename_i j hj
        rw [hj] at h1
        simp only at h1
        have hjl : j < ops.length := (List.findIdx?_eq_some_iff_getElem.1 hj).1
        split
        · rename_i hw
          obtain ⟨e, he, hbe⟩ := waits_mem hw
          simp only [Bool.and_eq_true, beq_iff_eq] at hbe
          have := Array.all_eq_true_iff_forall_mem.1 haft e he
          rw [hbe.1, hbe.2] at this
          have hjl2 : j < listed.size := by omega
          have hj1 : listed.getD j true = true := by
            simp [Array.getD_eq_getD_getElem?, Array.getElem?_eq_getElem hjl2] at this ⊢
            exact this
          rw [if_pos hj1] at h1
          exact h1
        · rename_i hw
          rcases hsh.2.2 d hd' j hj with hx | ⟨o', ho', hx⟩
          · exact absurd hx hw
          · have hj0 : ¬ listed.getD j true = true := by
              intro hjt
              have := hcl j o' ho' hjt i hx
              rw [this] at hun
              cases hun
            rw [if_neg hj0] at h1
            exact h1
      · rename_i hj
        rw [hj] at h1
        exact h1
    have hnext : ∀ v w', V i v → I (listed.setIfInBounds i true) (a.put (ops[i]).dst v) w' → wpAny P md ops.toArray Q fuel (listed.setIfInBounds i true) (a.put (ops[i]).dst v) w' := by
      intro v w' hv hRw
      have hset : ∀ j, j ≠ i → (listed.setIfInBounds i true).getD j true = listed.getD j true := fun j hj => by
        simp [Array.getD_eq_getD_getElem?, Array.getElem?_setIfInBounds_ne (Ne.symm hj)]
      have hseti : (listed.setIfInBounds i true).getD i true = true := by
        simp [Array.getD_eq_getD_getElem?, show i < listed.size by omega]
      refine ih _ _ _ (by simpa using hls) (by have := left_set ops.length listed hls i hil hun; omega) hRw ?_ ?_ ?_ ?_
      · unfold Act.put; split <;> simp [hs]
      · unfold Act.put; split <;> simp [hd]
      · intro d
        have h1 := hh d
        have far : (∀ d', (ops[i]).dst = some d' → d' ≠ d) → (a.put (ops[i]).dst v).eval (.tmp d) = a.eval (.tmp d) := fun hne =>
          Act.eval_put fun d' hd' he => hne d' hd' (by cases he; rfl)
        unfold holds2 at h1 ⊢
        cases hwr : writer ops d with
        | none =>
          rw [hwr] at h1
          simp only at h1 ⊢
          rw [far fun d' hd' he => ?_]
          · exact h1
          · subst he
            rw [(hsh.2.1 _ hd').2] at hwr
            cases hwr
        | some j =>
          rw [hwr] at h1
          simp only at h1 ⊢
          by_cases hji : j = i
          · subst hji
            rw [if_pos hseti]
            have hdst : (ops[j]).dst = some d := by
              have := (List.findIdx?_eq_some_iff_getElem.1 hwr).2.1
              simpa using this
            have hdn := (hsh.2.1 d hdst).1
            have : (a.put (ops[j]).dst v).eval (.tmp d) = v := by
              rw [hdst]
              simp [Act.eval, Act.put, Array.getD_eq_getD_getElem?, hs, hdn]
            rw [this]
            exact hv
          · rw [hset j hji, far fun d' hd' he => ?_]
            · split
              · rename_i hl
                rw [if_pos hl] at h1
                exact h1
              · rename_i hl
                rw [if_neg hl] at h1
                exact h1
            · subst he
              rw [(hsh.2.1 _ hd').2] at hwr
              simp only [Option.some.injEq] at hwr
              exact hji hwr.symm
      · intro j o' ho' hj k hk
        by_cases hki : k = i
        · rw [hki]; exact hseti
        · rw [hset k hki]
          by_cases hji : j = i
          · subst hji
            rw [ho] at ho'
            cases ho'
            obtain ⟨e, he, hbe⟩ := waits_mem hk
            simp only [Bool.and_eq_true, beq_iff_eq] at hbe
            have := Array.all_eq_true_iff_forall_mem.1 haft e he
            rw [hbe.1, hbe.2] at this
            have hkl : k < listed.size := by
              have := hsh.1 e he hbe.1
              omega
            simp [Array.getD_eq_getD_getElem?, Array.getElem?_eq_getElem hkl] at this ⊢
            exact this
          · rw [hset j hji] at hj
            exact hcl j o' ho' hj k hk
    have hall' : ∀ j, waits md ops[i] j = true → listed.getD j true = true := by
      intro j hw
      obtain ⟨e, he, hbe⟩ := waits_mem hw
      simp only [Bool.and_eq_true, beq_iff_eq] at hbe
      have h1 := Array.all_eq_true_iff_forall_mem.1 haft e he
      have h2 := hsh.1 e he hbe.1
      rw [hbe.1, hbe.2] at h1
      rw [hbe.2] at h2
      have hjl2 : j < listed.size := by omega
      simp [Array.getD_eq_getD_getElem?, Array.getElem?_eq_getElem hjl2] at h1 ⊢
      exact h1
    have := hdo listed a w _ hls hun hall' hcl hR hs hd hfinds hnext
    split
    · rename_i hw
      rw [if_pos hw] at this
      exact .inl this
    · rename_i hw
      rw [if_neg hw] at this
      exact this


/-- A REGION THAT DRAWS ITS ORDER -/
theorem region_gen {id : Nat} {a0 : Act} {w0 : World} {l : List Oper} (hm : P.follows .mixedOrders = true) (I : Array Bool → Act → World → Prop) (h0 : I (Array.replicate l.length false) a0 w0.drew) (V : Nat → Value → Prop) (hok : shaped .any l a0.tmps.size = true)
    (hops : AllDo (Does2 P .any l Q I V a0) 0 l)
    (hq : ∀ listed a w, (∀ i, i < l.length → listed.getD i true = true) → listed.size = l.length → I listed a w → a.tmps.size = a0.tmps.size → a.defers = a0.defers → (∀ d, ends2 l V a0 a d) → Q .normal a w) : (Code.region id l.toArray true).wp P Q a0 w0 := by
  refine wp_region_any hm ?_
  refine wpAny_gen I V a0 hok (fun i o ho => by simpa using hops.at i o ho) hq _ _ _ _ (by simp) ?_ (by simpa using h0) rfl rfl (fun d => ?_) (fun j o' ho' hj i hw => ?_)
  · unfold left
    refine Nat.le_trans (List.countP_le_length) ?_
    simp
  · unfold holds2
    split
    · rename_i j hj
      have hjl : j < l.length := (List.findIdx?_eq_some_iff_getElem.1 hj).1
      simp [Array.getD_eq_getD_getElem?, hjl]
    · rfl
  · exfalso
    have hjl : j < l.length := (List.getElem?_eq_some_iff.1 ho').1
    simp [Array.getD_eq_getD_getElem?, hjl] at hj
end
end Go.Le
