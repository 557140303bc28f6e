import Derived.Test.YtpaebopmppbjbaaGreatDoorVals
/- A region that draws its order, by an invariant over what is done: no order is walked. No program in sight. -/
set_option linter.unusedVariables false
set_option linter.unusedSimpArgs false
namespace Go.Le
open Go Go.RowKit

section
variable {P : Program} {md : Region.Mode} {n : Nat} {ops : List Oper} {Q : Exit → Act → World → Prop}

/-- what operation o finds in a slot -/
def finds2 (md : Region.Mode) (ops : List Oper) (V : Nat → Value → Prop) (a0 : Act) (o : Oper) (a : Act) (d : Tmp) : Prop :=
  match writer ops d with
  | some j => if waits md o j = true then V j (a.eval (.tmp d)) else a.eval (.tmp d) = a0.eval (.tmp d)
  | none => a.eval (.tmp d) = a0.eval (.tmp d)
/-- what a slot holds, where these operations are done -/
def holds2 (ops : List Oper) (V : Nat → Value → Prop) (a0 : Act) (listed : Array Bool) (a : Act) (d : Tmp) : Prop :=
  match writer ops d with
  | some j => if listed.getD j true = true then V j (a.eval (.tmp d)) else a.eval (.tmp d) = a0.eval (.tmp d)
  | none => a.eval (.tmp d) = a0.eval (.tmp d)
/-- what a slot holds at the end -/
def ends2 (ops : List Oper) (V : Nat → Value → Prop) (a0 : Act) (a : Act) (d : Tmp) : Prop :=
  match writer ops d with
  | some j => V j (a.eval (.tmp d))
  | none => a.eval (.tmp d) = a0.eval (.tmp d)

/-- every operation does as is said -/
def Does2 (P : Program) (md : Region.Mode) (ops : List Oper) (Q : Exit → Act → World → Prop) (I : Array Bool → Act → World → Prop) (V : Nat → Value → Prop) (a0 : Act) (i : Nat) (o : Oper) : Prop :=
  ∀ (listed : Array Bool) (a : Act) (w : World) (K : Act → World → Prop), listed.size = ops.length → listed.getD i true = false → (∀ j, waits md o j = true → listed.getD j true = true) → (∀ (j : Nat) (o' : Oper), ops[j]? = some o' → listed.getD j true = true → ∀ i, waits md o' i = true → listed.getD i true = true) → I listed a w → a.tmps.size = a0.tmps.size → a.defers = a0.defers →
    (∀ d ∈ o.looksAt ops.toArray, finds2 md ops V a0 o a d) → (∀ v w', V i v → I (listed.setIfInBounds i true) (a.put o.dst v) w' → K (a.put o.dst v) w') →
    if Region.wanted o (yielded ops.toArray a.tmps) then o.wp P a w K Q else K (a.put o.dst undef) w

theorem wpAny_gen (I : Array Bool → Act → World → Prop) (V : Nat → Value → Prop) (a0 : Act) (hok : shaped md ops a0.tmps.size = true)
    (hops : ∀ i o, ops[i]? = some o → Does2 P md ops Q I V a0 i o)
    (hq : ∀ listed a w, (∀ i, i < ops.length → listed.getD i true = true) → listed.size = ops.length → I listed a w → a.tmps.size = a0.tmps.size → a.defers = a0.defers → (∀ d, ends2 ops V a0 a d) → Q .normal a w) :
    ∀ (fuel : Nat) (listed : Array Bool) (a : Act) (w : World), listed.size = ops.length → left ops.length listed ≤ fuel → I listed a w → a.tmps.size = a0.tmps.size → a.defers = a0.defers → (∀ d, holds2 ops V a0 listed a d) → (∀ (j : Nat) (o' : Oper), ops[j]? = some o' → listed.getD j true = true → ∀ i, waits md o' i = true → listed.getD i true = true) →
      wpAny P md ops.toArray Q fuel listed a w := by
  have fin : ∀ (listed : Array Bool) (a : Act) (w : World), (∀ i, i < ops.length → listed.getD i true = true) → listed.size = ops.length → I listed a w → a.tmps.size = a0.tmps.size → a.defers = a0.defers → (∀ d, holds2 ops V a0 listed a d) → Q .normal a w := by
    intro listed a w hall hls hR hs hd hh
    refine hq listed a w hall hls hR hs hd fun d => ?_
    have := hh d
    unfold holds2 at this
    unfold ends2
    split at this
    · rename_i j hj
      have hjl : j < ops.length := (List.findIdx?_eq_some_iff_getElem.1 hj).1
      rw [hall j hjl] at this
      simpa using this
    · exact this
  intro fuel
  induction fuel with
  | zero =>
    intro listed a w hls hleft hR hs hd hh hcl
    have hall : ∀ i, i < ops.length → listed.getD i true = true := by
      intro i hi
      have h0 : left ops.length listed = 0 := by omega
      unfold left at h0
      rw [List.countP_eq_zero] at h0
      have := h0 i (List.mem_range.2 hi)
      simpa using this
    refine ⟨?_, fin listed a w hall hls hR hs hd hh⟩
    unfold Region.ready
    rw [List.filter_eq_nil_iff]
    intro i hi
    rw [hall i (by simpa using hi)]
    simp
  | succ fuel ih =>
    intro listed a w hls hleft hR hs hd hh hcl
    refine ⟨fun hr => fin listed a w (all_listed hok listed hls hr) hls hR hs hd hh, fun i hi => ?_⟩
    unfold Region.ready at hi
    rw [List.mem_filter] at hi
    obtain ⟨hi1, hi2⟩ := hi
    have hil : i < ops.length := by simpa using hi1
    have ho : ops[i]? = some ops[i] := List.getElem?_eq_getElem hil
    simp only [List.getElem?_toArray, ho, Option.map_some, Option.getD_some, Bool.and_eq_true, Bool.not_eq_true'] at hi2
    obtain ⟨hun, haft⟩ := hi2
    have hsh := shaped_at hok i _ ho
    have hdo := hops i _ ho
    unfold wpOp
    simp only [List.getElem?_toArray, ho]
    have hfinds : ∀ d ∈ (ops[i]).looksAt ops.toArray, finds2 md ops V a0 ops[i] a d := by
      intro d hd'
      have h1 := hh d
      unfold holds2 at h1
      unfold finds2
      split
      · rename_i j hj
        rw [hj] at h1
        simp only at h1
        have hjl : j < ops.length := (List.findIdx?_eq_some_iff_getElem.1 hj).1
        split
        · rename_i hw
          obtain ⟨e, he, hbe⟩ := waits_mem hw
          simp only [Bool.and_eq_true, beq_iff_eq] at hbe
          have := Array.all_eq_true_iff_forall_mem.1 haft e he
          rw [hbe.1, hbe.2] at this
          have hjl2 : j < listed.size := by omega
          have hj1 : listed.getD j true = true := by
            simp [Array.getD_eq_getD_getElem?, Array.getElem?_eq_getElem hjl2] at this ⊢
            exact this
          rw [if_pos hj1] at h1
          exact h1
        · rename_i hw
          rcases hsh.2.2 d hd' j hj with hx | ⟨o', ho', hx⟩
          · exact absurd hx hw
          · have hj0 : ¬ listed.getD j true = true := by
              intro hjt
              have := hcl j o' ho' hjt i hx
              rw [this] at hun
              cases hun
            rw [if_neg hj0] at h1
            exact h1
      · rename_i hj
        rw [hj] at h1
        exact h1
    have hnext : ∀ v w', V i v → I (listed.setIfInBounds i true) (a.put (ops[i]).dst v) w' → wpAny P md ops.toArray Q fuel (listed.setIfInBounds i true) (a.put (ops[i]).dst v) w' := by
      intro v w' hv hRw
      have hset : ∀ j, j ≠ i → (listed.setIfInBounds i true).getD j true = listed.getD j true := fun j hj => by
        simp [Array.getD_eq_getD_getElem?, Array.getElem?_setIfInBounds_ne (Ne.symm hj)]
      have hseti : (listed.setIfInBounds i true).getD i true = true := by
        simp [Array.getD_eq_getD_getElem?, show i < listed.size by omega]
      refine ih _ _ _ (by simpa using hls) (by have := left_set ops.length listed hls i hil hun; omega) hRw ?_ ?_ ?_ ?_
      · unfold Act.put; split <;> simp [hs]
      · unfold Act.put; split <;> simp [hd]
      · intro d
        have h1 := hh d
        have far : (∀ d', (ops[i]).dst = some d' → d' ≠ d) → (a.put (ops[i]).dst v).eval (.tmp d) = a.eval (.tmp d) := fun hne =>
          Act.eval_put fun d' hd' he => hne d' hd' (by cases he; rfl)
        unfold holds2 at h1 ⊢
        cases hwr : writer ops d with
        | none =>
          rw [hwr] at h1
          simp only at h1 ⊢
          rw [far fun d' hd' he => ?_]
          · exact h1
          · subst he
            rw [(hsh.2.1 _ hd').2] at hwr
            cases hwr
        | some j =>
          rw [hwr] at h1
          simp only at h1 ⊢
          by_cases hji : j = i
          · subst hji
            rw [if_pos hseti]
            have hdst : (ops[j]).dst = some d := by
              have := (List.findIdx?_eq_some_iff_getElem.1 hwr).2.1
              simpa using this
            have hdn := (hsh.2.1 d hdst).1
            have : (a.put (ops[j]).dst v).eval (.tmp d) = v := by
              rw [hdst]
              simp [Act.eval, Act.put, Array.getD_eq_getD_getElem?, hs, hdn]
            rw [this]
            exact hv
          · rw [hset j hji, far fun d' hd' he => ?_]
            · split
              · rename_i hl
                rw [if_pos hl] at h1
                exact h1
              · rename_i hl
                rw [if_neg hl] at h1
                exact h1
            · subst he
              rw [(hsh.2.1 _ hd').2] at hwr
              simp only [Option.some.injEq] at hwr
              exact hji hwr.symm
      · intro j o' ho' hj k hk
        by_cases hki : k = i
        · rw [hki]; exact hseti
        · rw [hset k hki]
          by_cases hji : j = i
          · subst hji
            rw [ho] at ho'
            cases ho'
            obtain ⟨e, he, hbe⟩ := waits_mem hk
            simp only [Bool.and_eq_true, beq_iff_eq] at hbe
            have := Array.all_eq_true_iff_forall_mem.1 haft e he
            rw [hbe.1, hbe.2] at this
            have hkl : k < listed.size := by
              have := hsh.1 e he hbe.1
              omega
            simp [Array.getD_eq_getD_getElem?, Array.getElem?_eq_getElem hkl] at this ⊢
            exact this
          · rw [hset j hji] at hj
            exact hcl j o' ho' hj k hk
    have hall' : ∀ j, waits md ops[i] j = true → listed.getD j true = true := by
      intro j hw
      obtain ⟨e, he, hbe⟩ := waits_mem hw
      simp only [Bool.and_eq_true, beq_iff_eq] at hbe
      have h1 := Array.all_eq_true_iff_forall_mem.1 haft e he
      have h2 := hsh.1 e he hbe.1
      rw [hbe.1, hbe.2] at h1
      rw [hbe.2] at h2
      have hjl2 : j < listed.size := by omega
      simp [Array.getD_eq_getD_getElem?, Array.getElem?_eq_getElem hjl2] at h1 ⊢
      exact h1
    have := hdo listed a w _ hls hun hall' hcl hR hs hd hfinds hnext
    split
    · rename_i hw
      rw [if_pos hw] at this
      exact .inl this
    · rename_i hw
      rw [if_neg hw] at this
      exact this


/-- A REGION THAT DRAWS ITS ORDER -/
theorem region_gen {id : Nat} {a0 : Act} {w0 : World} {l : List Oper} (hm : P.follows .mixedOrders = true) (I : Array Bool → Act → World → Prop) (h0 : I (Array.replicate l.length false) a0 w0.drew) (V : Nat → Value → Prop) (hok : shaped .any l a0.tmps.size = true)
    (hops : AllDo (Does2 P .any l Q I V a0) 0 l)
    (hq : ∀ listed a w, (∀ i, i < l.length → listed.getD i true = true) → listed.size = l.length → I listed a w → a.tmps.size = a0.tmps.size → a.defers = a0.defers → (∀ d, ends2 l V a0 a d) → Q .normal a w) : (Code.region id l.toArray true).wp P Q a0 w0 := by
  refine wp_region_any hm ?_
  refine wpAny_gen I V a0 hok (fun i o ho => by simpa using hops.at i o ho) hq _ _ _ _ (by simp) ?_ (by simpa using h0) rfl rfl (fun d => ?_) (fun j o' ho' hj i hw => ?_)
  · unfold left
    refine Nat.le_trans (List.countP_le_length) ?_
    simp
  · unfold holds2
    split
    · rename_i j hj
      have hjl : j < l.length := (List.findIdx?_eq_some_iff_getElem.1 hj).1
      simp [Array.getD_eq_getD_getElem?, hjl]
    · rfl
  · exfalso
    have hjl : j < l.length := (List.getElem?_eq_some_iff.1 ho').1
    simp [Array.getD_eq_getD_getElem?, hjl] at hj
end
end Go.Le

/- A region that draws its order, its values settled; operations may make memory of their own, or turn what the region owns: no order is walked. No program in sight. -/
set_option linter.unusedVariables false
set_option linter.unusedSimpArgs false
namespace Go.Le
open Go Go.RowKit

/-- the slot that operation j has written -/
def valOf (l : List Oper) (a : Act) (j : Nat) : Value := match (l[j]?).bind (·.dst) with | some d => a.eval (.tmp d) | none => undef
/-- what the operations that are done have made, and no other has taken -/
def there (L : Nat → Bool) (x : Nat × Option Nat × (Value → HP)) : Bool := L x.1 && !(match x.2.1 with | some k => L k | none => false)
def madeBy (l : List Oper) (Bs : List (Nat × Option Nat × (Value → HP))) (L : Nat → Bool) (a : Act) : HP := all (Bs.map fun x => if there L x then x.2.2 (valOf l a x.1) else emp)
/-- what operation i takes -/
def eaten (l : List Oper) (Bs : List (Nat × Option Nat × (Value → HP))) (i : Nat) (a : Act) : HP := all (Bs.map fun x => if x.2.1 == some i then x.2.2 (valOf l a x.1) else emp)
/-- some of a list -/
def sel {α : Type} : List Bool → List α → List α
  | _, [] => []
  | [], _ => []
  | true :: m, x :: r => x :: sel m r
  | false :: m, _ :: r => sel m r
def stars : List HP → HP → HP
  | [], R => R
  | A :: l, R => A * stars l R
def doneSet (L : Nat → Bool) (i : Nat) : Nat → Bool := fun j => j == i || L j

section
variable {P : Program} {Q : Exit → Act → World → Prop} {wb : World} {A : (Nat → Bool) → HP} {V : Vals} {Bs : List (Nat × Option Nat × (Value → HP))} {a0 : Act} {w0 : World} {l : List Oper}

/-- what operation i makes -/
def mk (Bs : List (Nat × Option Nat × (Value → HP))) (i : Nat) (v : Value) : HP := match Bs.find? (·.1 == i) with | some x => x.2.2 v | none => emp
/-- what has to be shown of one operation -/
def Fine2 (P : Program) (Q : Exit → Act → World → Prop) (wb : World) (A : (Nat → Bool) → HP) (V : Vals) (Bs : List (Nat × Option Nat × (Value → HP))) (a0 : Act) (l : List Oper) (i : Nat) (o : Oper) : Prop :=
  (Stands l V o ∧ ∀ (L : Nat → Bool) (a : Act) (w : World) (K : Act → World → Prop) (R : HP), L i = false → (∀ j, waits .any o j = true → L j = true) → Mem wb w (A L * (eaten l Bs i a * R)) →
    (∀ m : List Bool, (sel m Bs).all (fun x => waits .any o x.1 && x.2.1.isNone) = true → ∃ R', R = stars ((sel m Bs).map fun x => x.2.2 (valOf l a x.1)) R') → (∀ d ∈ o.looksAt l.toArray, See l V a0 o a d) → a.defers = a0.defers → (∀ j o', l[j]? = some o' → L j = true → ∀ k, waits .any o' k = true → L k = true) →
    (∀ v w', V i v → Mem wb w' (A (doneSet L i) * (mk Bs i v * R)) → K (a.put o.dst v) w') → o.wp P a w K Q) ∨
  ((∃ g b d, o.guard = some (g, b) ∧ ((l[g]?).bind (·.dst)) = some d ∧ writer l d = some g ∧ waits .any o g = true ∧ ∀ x, V g x → x = .bool (!b)) ∧ V i undef ∧ (∀ L, A (doneSet L i) = A L) ∧ mk Bs i undef = emp ∧ ∀ a, eaten l Bs i a = emp)

theorem madeBy_congr {L L' : Nat → Bool} {a a' : Act} (h : ∀ x ∈ Bs, there L x = there L' x ∧ (there L x = true → valOf l a x.1 = valOf l a' x.1)) : madeBy l Bs L a = madeBy l Bs L' a' := by
  unfold madeBy
  congr 1
  apply List.map_congr_left
  intro x hx
  obtain ⟨h1, h2⟩ := h x hx
  rw [← h1]
  by_cases hl : there L x = true
  · simp only [hl, if_true]; rw [h2 hl]
  · simp only [hl]
    rfl
theorem all_ite_split {α : Type} (f : α → HP) (p q r : α → Bool) : ∀ (l : List α), (∀ x ∈ l, p x = (q x || r x) ∧ (q x && r x) = false) → all (l.map fun x => if p x then f x else emp) = all (l.map fun x => if q x then f x else emp) * all (l.map fun x => if r x then f x else emp)
  | [], _ => by simp only [List.map_nil, all, sep_emp]
  | x :: l, h => by
    simp only [List.map_cons, all]
    rw [all_ite_split f p q r l (fun y hy => h y (by simp [hy]))]
    obtain ⟨h1, h2⟩ := h x (by simp)
    rw [h1]
    by_cases hq : q x = true
    · have hr : r x = false := by simpa [hq] using h2
      simp only [hq, hr, Bool.true_or, if_true, Bool.false_eq_true, if_false, emp_sep]
      ac_rfl
    · by_cases hr : r x = true
      · simp only [hq, hr, Bool.false_eq_true, Bool.or_true, if_true, if_false, emp_sep]
        ac_rfl
      · simp only [hq, hr, Bool.false_eq_true, Bool.or_self, if_false, emp_sep]
/-- operation i is done: what it takes is gone, what it makes is there -/
theorem madeBy_set (hnd : (Bs.map (·.1)).Nodup) {L : Nat → Bool} {a a' : Act} {i : Nat} (hL : L i = false) (hse : ∀ x ∈ Bs, x.2.1 = some i → x.1 ≠ i ∧ L x.1 = true) (hi : ∀ x ∈ Bs, x.1 = i → ∀ k, x.2.1 = some k → k ≠ i ∧ L k = false)
    (h : ∀ x ∈ Bs, x.1 ≠ i → L x.1 = true → valOf l a' x.1 = valOf l a x.1) :
    ∃ M, madeBy l Bs L a = eaten l Bs i a * M ∧ madeBy l Bs (doneSet L i) a' = mk Bs i (valOf l a' i) * M ∧ M = all (Bs.map fun x => if there L x && !(x.2.1 == some i) then x.2.2 (valOf l a x.1) else emp) := by
  refine ⟨_, ?_, ?_, rfl⟩
  · unfold madeBy eaten
    refine all_ite_split _ _ _ _ _ fun x hx => ?_
    have hh := hse x hx
    obtain ⟨xi, xe, xB⟩ := x
    simp only [there] at *
    cases xe with
    | none => simp
    | some k =>
      by_cases hk : k = i
      · subst hk
        simp [hh rfl, hL]
      · have hk' : (k == i) = false := beq_false_of_ne hk
        have hk2 : (some k == some i) = false := beq_false_of_ne (by simpa using hk)
        simp only [hk2]
        simp
  · induction Bs with
    | nil => simp [madeBy, mk, all, sep_emp]
    | cons x r ih =>
      simp only [List.map_cons, List.nodup_cons] at hnd
      have e1 : madeBy l (x :: r) (doneSet L i) a' = (if there (doneSet L i) x then x.2.2 (valOf l a' x.1) else emp) * madeBy l r (doneSet L i) a' := rfl
      rw [e1]
      simp only [List.map_cons, all]
      by_cases hx : x.1 = i
      · have hm : mk (x :: r) i (valOf l a' i) = x.2.2 (valOf l a' i) := by simp [mk, hx]
        have hr : madeBy l r (doneSet L i) a' = all (r.map fun x => if there L x && !(x.2.1 == some i) then x.2.2 (valOf l a x.1) else emp) := by
          unfold madeBy
          congr 1
          apply List.map_congr_left
          intro y hy
          have hne : y.1 ≠ i := fun e => hnd.1 (by rw [hx, ← e]; exact List.mem_map_of_mem hy)
          have hv := h y (List.mem_cons_of_mem _ hy) hne
          have hd : there (doneSet L i) y = (there L y && !(y.2.1 == some i)) := by
            obtain ⟨yi, ye, yB⟩ := y
            simp only [there, doneSet] at *
            cases ye with
            | none => simp [hne]
            | some k =>
              have e1 : (yi == i) = false := beq_false_of_ne hne
              have e2 : (some k == some i) = (k == i) := rfl
              simp only [e1, e2, Bool.false_or, Bool.not_or]
              cases k == i <;> cases L yi <;> cases L k <;> rfl
          rw [hd]
          by_cases hq : (there L y && !(y.2.1 == some i)) = true
          · have hly : L y.1 = true := by
              simp only [there, Bool.and_eq_true] at hq
              exact hq.1.1
            rw [hv hly]
          · simp only [hq]; rfl
        have ht : there (doneSet L i) x = true := by
          have h2 := hi x (by simp) hx
          obtain ⟨xi, xe, xB⟩ := x
          simp only [there, doneSet] at *
          subst hx
          cases xe with
          | none => simp
          | some k => obtain ⟨h3, h4⟩ := h2 k rfl; simp [h3, h4]
        have ht2 : there L x = false := by simp [there, hx, hL]
        rw [hm, hr, ht, hx, ht2]
        simp only [if_true, Bool.false_and, Bool.false_eq_true, if_false, emp_sep]
      · have hm : mk (x :: r) i (valOf l a' i) = mk r i (valOf l a' i) := by simp [mk, hx]
        rw [hm, ih hnd.2 (fun y hy => hse y (List.mem_cons_of_mem _ hy)) (fun y hy => hi y (List.mem_cons_of_mem _ hy)) (fun y hy => h y (List.mem_cons_of_mem _ hy)), sep_left_comm]
        congr 1
        have hd : there (doneSet L i) x = (there L x && !(x.2.1 == some i)) := by
          obtain ⟨xi, xe, xB⟩ := x
          simp only [there, doneSet] at *
          cases xe with
          | none => simp [hx]
          | some k =>
            have e1 : (xi == i) = false := beq_false_of_ne hx
            have e2 : (some k == some i) = (k == i) := rfl
            simp only [e1, e2, Bool.false_or, Bool.not_or]
            cases k == i <;> cases L xi <;> cases L k <;> rfl
        have hv := h x (by simp) hx
        rw [hd]
        by_cases hq : (there L x && !(x.2.1 == some i)) = true
        · have hly : L x.1 = true := by
            simp only [there, Bool.and_eq_true] at hq
            exact hq.1.1
          rw [hv hly]
        · simp only [hq]; rfl
theorem eaten_none {i : Nat} {a : Act} (h : (Bs.all fun x => x.2.1 != some i) = true) : eaten l Bs i a = emp := by
  unfold eaten
  induction Bs with
  | nil => rfl
  | cons x r ih =>
    simp only [List.all_cons, Bool.and_eq_true] at h
    have h1 : (x.2.1 == some i) = false := by simpa using h.1
    simp only [List.map_cons, all, h1, Bool.false_eq_true, if_false, emp_sep]
    exact ih h.2
theorem all_sel {α : Type} (f : α → HP) (p : α → Bool) : ∀ {Bs : List α} (m : List Bool), (∀ x ∈ sel m Bs, p x = true) → ∃ R', all (Bs.map fun x => if p x then f x else emp) = stars ((sel m Bs).map f) R'
  | [], _, _ => ⟨_, by simp only [sel, List.map_nil, stars]; rfl⟩
  | y :: r, [], _ => ⟨_, by simp only [sel, List.map_nil, stars]; rfl⟩
  | y :: r, true :: m, h => by
    obtain ⟨R', h'⟩ := all_sel f p (Bs := r) m (fun x hx => h x (by simp [sel, hx]))
    have hy := h y (by simp [sel])
    simp only [List.map_cons, all, hy, if_true, h', sel, stars]
    exact ⟨R', rfl⟩
  | y :: r, false :: m, h => by
    obtain ⟨R', h'⟩ := all_sel f p (Bs := r) m (fun x hx => h x (by simpa [sel] using hx))
    simp only [List.map_cons, all, h', sel]
    refine ⟨(if p y then f y else emp) * R', ?_⟩
    generalize (sel m r).map f = q
    clear h'
    induction q with
    | nil => rfl
    | cons A q ih => simp only [stars]; rw [sep_left_comm, ih]
/-- what is asked of Bs: each is made by an operation that writes a slot, and taken by one that waits for it, if by any -/
def fits (l : List Oper) (Bs : List (Nat × Option Nat × (Value → HP))) : Bool :=
  Bs.all fun x => decide (x.1 < l.length) && ((l[x.1]?).bind (·.dst)).isSome && (match x.2.1 with | some k => decide (k < l.length) && k != x.1 && (match l[k]? with | some o => waits .any o x.1 | none => false) | none => true)

/-- A REGION THAT DRAWS ITS ORDER, its values settled, its memory by what is done -/
theorem region_mem {id : Nat} (hm : P.follows .mixedOrders = true) (V : Vals) (A : (Nat → Bool) → HP) (Bs : List (Nat × Option Nat × (Value → HP))) (hA : Mem wb w0 (A fun _ => false)) (hAe : ∀ L L' : Nat → Bool, (∀ j, j < l.length → L j = L' j) → A L = A L')
    (hnd : (Bs.map (·.1)).Nodup) (hbs : fits l Bs = true) (hok : shaped .any l a0.tmps.size = true) (hops : AllDo (Fine2 P Q wb A V Bs a0 l) 0 l)
    (hq : ∀ (u : Nat → Value) w, (∀ d j, writer l d = some j → V j (u d)) → Mem wb w (A (fun _ => true) * all (Bs.map fun x => if x.2.1.isNone then x.2.2 (match (l[x.1]?).bind (·.dst) with | some d => u d | none => undef) else emp)) → Q .normal (putAll u a0 l) w) : (Code.region id l.toArray true).wp P Q a0 w0 := by
  have hbs' : ∀ x ∈ Bs, x.1 < l.length ∧ (∃ d, (l[x.1]?).bind (·.dst) = some d) ∧ ∀ k, x.2.1 = some k → k < l.length ∧ k ≠ x.1 ∧ ∃ o, l[k]? = some o ∧ waits .any o x.1 = true := by
    intro x hx
    have := List.all_eq_true.1 hbs x hx
    simp only [Bool.and_eq_true, decide_eq_true_eq, Option.isSome_iff_exists] at this
    refine ⟨this.1.1, this.1.2, fun k hk => ?_⟩
    have h2 := this.2
    rw [hk] at h2
    simp only [Bool.and_eq_true, decide_eq_true_eq, bne_iff_ne] at h2
    refine ⟨h2.1.1, h2.1.2, ?_⟩
    have h3 := h2.2
    split at h3
    · rename_i o ho; exact ⟨o, ho, h3⟩
    · cases h3
  let fn : Array Bool → Nat → Bool := fun listed j => listed.getD j false
  have hfnt : ∀ (listed : Array Bool) j, j < listed.size → fn listed j = listed.getD j true := by
    intro listed j hj
    simp [fn, Array.getD_eq_getD_getElem?, Array.getElem?_eq_getElem hj]
  refine region_gen hm (fun listed a w => Mem wb w (A (fn listed) * madeBy l Bs (fn listed) a)) ?_ V hok ?_ ?_
  · have h0 : ∀ j, fn (Array.replicate l.length false) j = false := by
      intro j
      simp [fn, Array.getD_eq_getD_getElem?, Array.getElem?_replicate]; split <;> rfl
    have e : madeBy l Bs (fn (Array.replicate l.length false)) a0 = emp := by
      rw [show emp = all (Bs.map fun _ => emp) from ?_]
      · unfold madeBy
        congr 1
        apply List.map_congr_left
        intro x hx
        simp [there, h0]
      · clear hnd hbs hops hq hbs'
        induction Bs with
        | nil => rfl
        | cons x r ih => rw [List.map_cons, all, emp_sep]; exact ih
    simp only [e, sep_emp]
    rw [hAe (fn (Array.replicate l.length false)) (fun _ => false) (fun j hj => h0 j)]
    exact hA.drew
  · have key : ∀ (k : Nat) (r : List Oper), (∀ i o, r[i]? = some o → l[k + i]? = some o) → AllDo (Fine2 P Q wb A V Bs a0 l) k r → AllDo (Does2 P .any l Q (fun listed a w => Mem wb w (A (fn listed) * madeBy l Bs (fn listed) a)) V a0) k r := by
      intro k r
      induction r generalizing k with
      | nil => intro _ _; trivial
      | cons o r ih =>
        rintro hl ⟨hdo, h2⟩
        have hlo : l[k]? = some o := hl 0 o rfl
        have hkl : k < l.length := (List.getElem?_eq_some_iff.1 hlo).1
        have hsh := shaped_at hok k o hlo
        refine ⟨fun listed a w K hls hun hall hcl hI hs hdf hf hK => ?_, ih (k + 1) (fun i o' ho' => by have := hl (i + 1) o' (by simpa using ho'); rw [show k + 1 + i = k + (i + 1) by omega]; exact this) h2⟩
        have hfn : fn listed k = false := by rw [hfnt _ _ (by omega)]; exact hun
        have hwl : ∀ j, waits .any o j = true → fn listed j = true := by
          intro j hj
          have h1 := hall j hj
          obtain ⟨e, he, hbe⟩ := waits_mem hj
          simp only [Bool.and_eq_true, beq_iff_eq] at hbe
          have h2 := hsh.1 e he hbe.1
          rw [hbe.2] at h2
          rw [hfnt _ _ (by omega)]; exact h1
        have hsetf : ∀ j, fn (listed.setIfInBounds k true) j = doneSet (fn listed) k j := fun j => by
          by_cases hjk : j = k
          · subst hjk; simp [fn, doneSet, Array.getD_eq_getD_getElem?, show j < listed.size by omega]
          · simp [fn, doneSet, hjk, Array.getD_eq_getD_getElem?, Array.getElem?_setIfInBounds_ne (Ne.symm hjk)]
        have hset : A (fn (listed.setIfInBounds k true)) = A (doneSet (fn listed) k) := hAe _ _ fun j hj => hsetf j
        have hvo : ∀ v, ∀ x ∈ Bs, x.1 ≠ k → valOf l (a.put o.dst v) x.1 = valOf l a x.1 := by
          intro v x hx hne
          obtain ⟨hxl, ⟨d, hd⟩, -⟩ := hbs' x hx
          unfold valOf
          rw [hd]
          refine Act.eval_put fun d' hd' he => ?_
          cases he
          have w1 := (hsh.2.1 d hd').2
          cases ho2 : l[x.1]? with
          | none => rw [ho2] at hd; cases hd
          | some o2 =>
            rw [ho2] at hd
            have w2 := ((shaped_at hok x.1 o2 ho2).2.1 d hd).2
            rw [w1] at w2
            exact hne (Option.some.inj w2).symm
        have hmk : ∀ v, mk Bs k (valOf l (a.put o.dst v) k) = mk Bs k v := by
          intro v
          unfold mk
          cases hfi : Bs.find? (·.1 == k) with
          | none => rfl
          | some x =>
            have hx := List.mem_of_find?_eq_some hfi
            have hxk := List.find?_some hfi
            simp only [beq_iff_eq] at hxk
            obtain ⟨hxl, ⟨d, hd⟩, -⟩ := hbs' x hx
            rw [hxk, hlo] at hd
            simp only [Option.bind_some] at hd
            have hdn := (hsh.2.1 d hd).1
            have : valOf l (a.put o.dst v) k = v := by
              unfold valOf
              rw [hlo]
              simp only [Option.bind_some, hd]
              simp [Act.eval, Act.put, Array.getD_eq_getD_getElem?, hs, hdn]
            simp only [this]
        have hse : ∀ x ∈ Bs, x.2.1 = some k → x.1 ≠ k ∧ fn listed x.1 = true := by
          intro x hx hxk
          obtain ⟨-, hne, o2, ho2, hw2⟩ := (hbs' x hx).2.2 k hxk
          rw [hlo] at ho2
          cases ho2
          exact ⟨fun e => hne e.symm, hwl _ hw2⟩
        have hi : ∀ x ∈ Bs, x.1 = k → ∀ k', x.2.1 = some k' → k' ≠ k ∧ fn listed k' = false := by
          intro x hx hxk k' hk'
          obtain ⟨hk'l, hne, o2, ho2, hw2⟩ := (hbs' x hx).2.2 k' hk'
          rw [hxk] at hne hw2
          refine ⟨hne, ?_⟩
          cases hc : fn listed k' with
          | false => rfl
          | true =>
            have h1 := hcl k' o2 ho2 (by rw [← hfnt _ _ (by omega)]; exact hc) k hw2
            rw [h1] at hun
            cases hun
        obtain ⟨M, hM1, hM2, hM3⟩ : ∃ M, madeBy l Bs (fn listed) a = eaten l Bs k a * M ∧ (∀ v, madeBy l Bs (fn (listed.setIfInBounds k true)) (a.put o.dst v) = mk Bs k v * M) ∧ M = all (Bs.map fun x => if there (fn listed) x && !(x.2.1 == some k) then x.2.2 (valOf l a x.1) else emp) := by
          obtain ⟨M, h1, -, h3⟩ := madeBy_set (l := l) (a := a) (a' := a.put o.dst undef) hnd hfn hse hi (fun x hx hne _ => hvo undef x hx hne)
          refine ⟨M, h1, fun v => ?_, h3⟩
          obtain ⟨M', -, h2', h3'⟩ := madeBy_set (l := l) (a := a) (a' := a.put o.dst v) hnd hfn hse hi (fun x hx hne _ => hvo v x hx hne)
          rw [h3, ← h3', ← hmk v, ← h2']
          apply madeBy_congr
          intro x hx
          have : there (fn (listed.setIfInBounds k true)) x = there (doneSet (fn listed) k) x := by
            unfold there
            rw [hsetf]
            cases x.2.1 with
            | none => rfl
            | some k' => simp only [hsetf]
          exact ⟨this, fun _ => rfl⟩
        rcases hdo with ⟨hst, hdo⟩ | ⟨⟨g, b, d, hg, h1, h3, h4, h5⟩, hvu, hAi, hmu, heu⟩
        · have hw : Region.wanted o (yielded l.toArray a.tmps) = true := by
            unfold Stands at hst
            unfold Region.wanted
            cases hg : o.guard with
            | none => rfl
            | some gb =>
              obtain ⟨g, b⟩ := gb
              rw [hg] at hst
              obtain ⟨d, h1, h3, h4, h5⟩ := hst
              have hsee : V g (a.eval (.tmp d)) := by
                have := hf d (by
                  unfold Oper.looksAt
                  rw [hg]
                  simp [h1])
                unfold finds2 at this
                rw [h3] at this
                simp only [h4, if_true] at this
                exact this
              have hv := h5 _ hsee
              have ht : a.tmps[d]? = some (.bool b) := by
                simp only [Act.eval, Array.getD_eq_getD_getElem?] at hv
                cases hx : a.tmps[d]? with
                | none => rw [hx] at hv; cases hv
                | some y => rw [hx] at hv; simp at hv; rw [hv]
              simp only [List.getElem?_toArray, yielded]
              rw [h1]
              simp [ht]
          rw [if_pos hw]
          have hI' : Mem wb w (A (fn listed) * (eaten l Bs k a * M)) := by rw [← hM1]; exact hI
          refine hdo (fn listed) a w K M hfn hwl hI' (fun m hwm => ?_) (fun d hd => hf d hd) hdf (fun j o' ho' hLj k' hw' => ?_) (fun v w' hv hm' => hK v w' hv ?_)
          · rw [hM3]
            refine all_sel _ _ m fun x hx => ?_
            have h1 := List.all_eq_true.1 hwm x hx
            simp only [Bool.and_eq_true, Option.isNone_iff_eq_none] at h1
            unfold there
            rw [h1.2]
            simp [hwl _ h1.1]
          · have hj : j < l.length := (List.getElem?_eq_some_iff.1 ho').1
            obtain ⟨e, he, hbe⟩ := waits_mem hw'
            simp only [Bool.and_eq_true, beq_iff_eq] at hbe
            have h2 := (shaped_at hok j o' ho').1 e he hbe.1
            rw [hbe.2] at h2
            rw [hfnt _ _ (by omega)]
            exact hcl j o' ho' (by rw [← hfnt _ _ (by omega)]; exact hLj) k' hw'
          · show Mem wb w' (A (fn (listed.setIfInBounds k true)) * madeBy l Bs (fn (listed.setIfInBounds k true)) (a.put o.dst v))
            rw [hset, hM2]
            exact hm'
        · have hw : Region.wanted o (yielded l.toArray a.tmps) = false := by
            have hsee : V g (a.eval (.tmp d)) := by
              have := hf d (by
                unfold Oper.looksAt
                rw [hg]
                simp [h1])
              unfold finds2 at this
              rw [h3] at this
              simp only [h4, if_true] at this
              exact this
            have hv := h5 _ hsee
            have ht : a.tmps[d]? = some (.bool (!b)) := by
              simp only [Act.eval, Array.getD_eq_getD_getElem?] at hv
              cases hx : a.tmps[d]? with
              | none => rw [hx] at hv; cases hv
              | some y => rw [hx] at hv; simp at hv; rw [hv]
            unfold Region.wanted
            rw [hg]
            simp only [List.getElem?_toArray, yielded]
            rw [h1]
            simp [ht]
          rw [hw]
          simp only [Bool.false_eq_true, if_false]
          refine hK undef w hvu ?_
          show Mem wb w (A (fn (listed.setIfInBounds k true)) * madeBy l Bs (fn (listed.setIfInBounds k true)) (a.put o.dst undef))
          rw [hset, hAi, hM2, hmu]
          have hI' : Mem wb w (A (fn listed) * madeBy l Bs (fn listed) a) := hI
          rw [hM1, heu] at hI'
          exact hI'
    exact key 0 l (fun i o ho => by simpa using ho) hops
  · intro listed a w hall hls hI hs hd he
    have e := putAll_eq (l := l) hs hd (fun d hw => by
      have := he d
      unfold ends2 at this
      rw [hw] at this
      exact this)
    have hfn : ∀ j, j < l.length → fn listed j = true := fun j hj => by rw [hfnt _ _ (by omega)]; exact hall j hj
    rw [e]
    refine hq _ w (fun d j hw => ?_) ?_
    · have := he d
      unfold ends2 at this
      rw [hw] at this
      exact this
    · rw [hAe (fn listed) (fun _ => true) (fun j hj => hfn j hj)] at hI
      refine hI.eq ?_
      congr 1
      unfold madeBy
      congr 1
      apply List.map_congr_left
      intro x hx
      have ht : there (fn listed) x = x.2.1.isNone := by
        unfold there
        rw [hfn _ (hbs' x hx).1]
        cases hk : x.2.1 with
        | none => rfl
        | some k => simp [hfn k ((hbs' x hx).2.2 k hk).1]
      rw [ht]
      rfl

/-- what waits for an operation that is not done is not done -/
theorem not_done {L : Nat → Bool} {l : List Oper} (hcl : ∀ j o', l[j]? = some o' → L j = true → ∀ k, waits .any o' k = true → L k = true) {i : Nat} (hi : L i = false) (j : Nat) (o : Oper) (ho : l[j]? = some o) (hw : waits .any o i = true) : L j = false := by
  cases hc : L j with
  | false => rfl
  | true => rw [hcl j o ho hc i hw] at hi; cases hi
/-- an operation that reads -/
theorem Fine2.run {i : Nat} {o : Oper} (hst : Stands l V o) (v : Value) (hv : V i v) (hAi : ∀ L, A (doneSet L i) = A L) (hB : mk Bs i v = emp) (hE : (Bs.all fun x => x.2.1 != some i) = true)
    (h : ∀ L a w R, (∀ j, waits .any o j = true → L j = true) → Mem wb w (A L * R) → (∀ m : List Bool, (sel m Bs).all (fun x => waits .any o x.1 && x.2.1.isNone) = true → ∃ R', R = stars ((sel m Bs).map fun x => x.2.2 (valOf l a x.1)) R') → (∀ d ∈ o.looksAt l.toArray, See l V a0 o a d) → (execOp a.eval o).run P w = .ok (.value v) w) : Fine2 P Q wb A V Bs a0 l i o := by
  refine .inl ⟨hst, fun L a w K R hL hw hm hmk hf hdf hcl hK => ?_⟩
  rw [eaten_none hE, emp_sep] at hm
  unfold Oper.wp
  rw [h L a w R hw hm hmk hf]
  refine hK v w hv ?_
  rw [hAi, hB, emp_sep]
  exact hm
/-- a call -/
theorem Fine2.call {i : Nat} {o : Oper} (hst : Stands l V o) (hE : (Bs.all fun x => x.2.1 != some i) = true) (f : FuncId) (args : Array Value) (h : ∀ a w, (∀ d ∈ o.looksAt l.toArray, See l V a0 o a d) → (execOp a.eval o).run P w = .ok (.enter f args) w)
    (hc : ∀ L a w R, L i = false → (∀ j, waits .any o j = true → L j = true) → Mem wb w (A L * R) → (∀ m : List Bool, (sel m Bs).all (fun x => waits .any o x.1 && x.2.1.isNone) = true → ∃ R', R = stars ((sel m Bs).map fun x => x.2.2 (valOf l a x.1)) R') → (∀ d ∈ o.looksAt l.toArray, See l V a0 o a d) →
      Calls P f args w fun e w' => ∃ v, e = .returned v ∧ V i v ∧ Mem wb w' (A (doneSet L i) * (mk Bs i v * R))) : Fine2 P Q wb A V Bs a0 l i o := by
  refine .inl ⟨hst, fun L a w K R hL hw hm hmk hf hdf hcl hK => ?_⟩
  rw [eaten_none hE, emp_sep] at hm
  unfold Oper.wp
  rw [h a w hf]
  refine (hc L a w R hL hw hm hmk hf).mono ?_
  rintro e w' ⟨v, rfl, hv, hm'⟩
  exact hK v w' hv hm'
/-- a call that may be given up by a panic -/
theorem Fine2.callP {i : Nat} {o : Oper} (hst : Stands l V o) (hE : (Bs.all fun x => x.2.1 != some i) = true) (f : FuncId) (args : Array Value) (h : ∀ a w, (∀ d ∈ o.looksAt l.toArray, See l V a0 o a d) → (execOp a.eval o).run P w = .ok (.enter f args) w)
    (hc : ∀ L a w R, L i = false → (∀ j, waits .any o j = true → L j = true) → Mem wb w (A L * R) → (∀ m : List Bool, (sel m Bs).all (fun x => waits .any o x.1 && x.2.1.isNone) = true → ∃ R', R = stars ((sel m Bs).map fun x => x.2.2 (valOf l a x.1)) R') → (∀ d ∈ o.looksAt l.toArray, See l V a0 o a d) → a.defers = a0.defers → (∀ j o', l[j]? = some o' → L j = true → ∀ k, waits .any o' k = true → L k = true) →
      Calls P f args w fun e w' => (∃ v, e = .returned v ∧ V i v ∧ Mem wb w' (A (doneSet L i) * (mk Bs i v * R))) ∨ ∃ ch, e = .panicked ch ∧ Q (.panic ch) a w') : Fine2 P Q wb A V Bs a0 l i o := by
  refine .inl ⟨hst, fun L a w K R hL hw hm hmk hf hdf hcl hK => ?_⟩
  rw [eaten_none hE, emp_sep] at hm
  unfold Oper.wp
  rw [h a w hf]
  refine (hc L a w R hL hw hm hmk hf hdf hcl).mono ?_
  rintro e w' (⟨v, rfl, hv, hm'⟩ | ⟨ch, rfl, hq⟩)
  · exact hK v w' hv hm'
  · exact hq
/-- an operation that never runs: what it waits for never comes to an end -/
theorem Fine2.never {i : Nat} {o : Oper} (hst : Stands l V o) (d : Tmp) (hd : d ∈ o.looksAt l.toArray) (hn : ∀ a, ¬ See l V a0 o a d) : Fine2 P Q wb A V Bs a0 l i o :=
  .inl ⟨hst, fun L a w K R hL hw hm hmk hf => absurd (hf d hd) (hn a)⟩
/-- any other operation: it may take, and make -/
theorem Fine2.open {i : Nat} {o : Oper} (hst : Stands l V o) (h : ∀ L a w R, L i = false → (∀ j, waits .any o j = true → L j = true) → Mem wb w (A L * (eaten l Bs i a * R)) → (∀ m : List Bool, (sel m Bs).all (fun x => waits .any o x.1 && x.2.1.isNone) = true → ∃ R', R = stars ((sel m Bs).map fun x => x.2.2 (valOf l a x.1)) R') →
      (∀ d ∈ o.looksAt l.toArray, See l V a0 o a d) → ∃ v w', (execOp a.eval o).run P w = .ok (.value v) w' ∧ V i v ∧ Mem wb w' (A (doneSet L i) * (mk Bs i v * R))) : Fine2 P Q wb A V Bs a0 l i o := by
  refine .inl ⟨hst, fun L a w K R hL hw hm hmk hf hdf hcl hK => ?_⟩
  obtain ⟨v, w', h1, h2, h3⟩ := h L a w R hL hw hm hmk hf
  unfold Oper.wp
  rw [h1]
  exact hK v w' h2 h3
/-- a store -/
theorem Fine2.store {i : Nat} {o : Oper} (hst : Stands l V o) (hV : V i undef) (h : ∀ L a w R, L i = false → (∀ j, waits .any o j = true → L j = true) → Mem wb w (A L * (eaten l Bs i a * R)) → (∀ m : List Bool, (sel m Bs).all (fun x => waits .any o x.1 && x.2.1.isNone) = true → ∃ R', R = stars ((sel m Bs).map fun x => x.2.2 (valOf l a x.1)) R') →
      (∀ d ∈ o.looksAt l.toArray, See l V a0 o a d) → ∃ w', (execOp a.eval o).run P w = .ok .skip w' ∧ Mem wb w' (A (doneSet L i) * (mk Bs i undef * R))) : Fine2 P Q wb A V Bs a0 l i o := by
  refine .inl ⟨hst, fun L a w K R hL hw hm hmk hf hdf hcl hK => ?_⟩
  obtain ⟨w', h1, h3⟩ := h L a w R hL hw hm hmk hf
  unfold Oper.wp
  rw [h1]
  exact hK undef w' hV h3
end
/-- a block that is new, and its cells -/
def blkB (e : TypeId) (n : Nat) (cs : List Value) (v : Value) : HP := ex fun g : Nat => pur (v = .slice (some ⟨g, 0, none⟩) n n) * pts g e cs
theorem Mem.blkB {wb w : World} {R : HP} {e : TypeId} {n : Nat} {cs : List Value} {v : Value} : Mem wb w (Le.blkB e n cs v * R) ↔ ∃ g, v = .slice (some ⟨g, 0, none⟩) n n ∧ Mem wb w (pts g e cs * R) := by
  unfold Le.blkB
  rw [Mem.exl]
  constructor
  · rintro ⟨g, h⟩
    rw [sep_assoc, Mem.pur] at h
    exact ⟨g, h.1, h.2⟩
  · rintro ⟨g, h1, h2⟩
    exact ⟨g, by rw [sep_assoc, Mem.pur]; exact ⟨h1, h2⟩⟩
/-- a slice that is new, and its elements -/
def rowB (u : TypeId) (n : Nat) (xs : List Value) (v : Value) : HP := ex fun x : Option Addr × Nat => pur (v = .slice x.1 n x.2) * row u 1 x.1 n x.2 xs
theorem Mem.rowB {wb w : World} {R : HP} {u : TypeId} {n : Nat} {xs : List Value} {v : Value} : Mem wb w (Le.rowB u n xs v * R) ↔ ∃ a c, v = .slice a n c ∧ Mem wb w (row u 1 a n c xs * R) := by
  unfold Le.rowB
  rw [Mem.exl]
  constructor
  · rintro ⟨⟨a, c⟩, h⟩
    rw [sep_assoc, Mem.pur] at h
    exact ⟨a, c, h.1, h.2⟩
  · rintro ⟨a, c, h1, h2⟩
    exact ⟨(a, c), by rw [sep_assoc, Mem.pur]; exact ⟨h1, h2⟩⟩
theorem Mem.rowB_sl {wb w : World} {R : HP} {u : TypeId} {n : Nat} {xs : List Value} {v : Value} (h : Mem wb w (Le.rowB u n xs v * R)) : ∃ a c, v = .slice a n c ∧ Sl w a n c xs := by
  obtain ⟨a, c, h1, h2⟩ := Mem.rowB.1 h
  exact ⟨a, c, h1, h2.row_sl⟩
end Go.Le
