/- A region that draws its order, by what holds of each operation's value in every world that is reached: no order is walked. No program in sight. -/
import Derived.Test.YtpaebopmppbjbaaMem2
import Derived.Orders
set_option linter.unusedVariables false
set_option linter.unusedSimpArgs false
namespace Go.Le
open Go Go.RowKit

/-- what is said of a value, and stays true as the world goes on -/
structure Say (R : World → World → Prop) where
  p : Value → World → Prop
  st : ∀ v w1 w2, p v w1 → R w1 w2 → p v w2

/-- which operation writes a slot -/
def writer (ops : List Oper) (d : Tmp) : Option Nat := ops.findIdx? fun o => o.dst == some d
/-- operation i waits for operation j -/
def waits (md : Region.Mode) (o : Oper) (j : Nat) : Bool := o.after.any fun e => Region.binds md e && e.on == j

theorem waits_mem {md : Region.Mode} {o : Oper} {j : Nat} (h : waits md o j = true) : ∃ e, e ∈ o.after ∧ (Region.binds md e && e.on == j) = true := by
  unfold waits at h
  rw [← Array.any_toList] at h
  obtain ⟨e, he, hb⟩ := List.any_eq_true.1 h
  exact ⟨e, by simpa using he, hb⟩
/-- the region's shape: each operation waits for earlier ones alone; writes a slot of its own, within the frame; each slot that it looks at is written by one that it waits for, or by one that waits for it -/
def shaped (md : Region.Mode) (ops : List Oper) (n : Nat) : Bool :=
  (List.range ops.length).all fun i =>
    match ops[i]? with
    | none => true
    | some o =>
      (o.after.all fun e => !Region.binds md e || decide (e.on < i)) &&
      (match o.dst with
       | none => true
       | some d => decide (d < n) && writer ops d == some i) &&
      ((o.looksAt ops.toArray).all fun d =>
        match writer ops d with
        | none => true
        | some j => waits md o j || (match ops[j]? with | some o' => waits md o' i | none => false))

section
variable {P : Program} {md : Region.Mode} {n : Nat} {ops : List Oper} {Q : Exit → Act → World → Prop} {R : World → World → Prop}

/-- what operation o finds in a slot -/
def finds (md : Region.Mode) (ops : List Oper) (V : Nat → Say R) (a0 : Act) (o : Oper) (a : Act) (w : World) (d : Tmp) : Prop :=
  match writer ops d with
  | some j => if waits md o j = true then (V j).p (a.eval (.tmp d)) w else a.eval (.tmp d) = a0.eval (.tmp d)
  | none => a.eval (.tmp d) = a0.eval (.tmp d)
/-- what a slot holds, where these operations are done -/
def holds (ops : List Oper) (V : Nat → Say R) (a0 : Act) (listed : Array Bool) (a : Act) (w : World) (d : Tmp) : Prop :=
  match writer ops d with
  | some j => if listed.getD j true = true then (V j).p (a.eval (.tmp d)) w else a.eval (.tmp d) = a0.eval (.tmp d)
  | none => a.eval (.tmp d) = a0.eval (.tmp d)
/-- what a slot holds at the end -/
def ends (ops : List Oper) (V : Nat → Say R) (a0 : Act) (a : Act) (w : World) (d : Tmp) : Prop :=
  match writer ops d with
  | some j => (V j).p (a.eval (.tmp d)) w
  | none => a.eval (.tmp d) = a0.eval (.tmp d)

/-- every operation does as is said -/
def Does (P : Program) (md : Region.Mode) (ops : List Oper) (Q : Exit → Act → World → Prop) (V : Nat → Say R) (a0 : Act) (w0 : World) (i : Nat) (o : Oper) : Prop :=
  ∀ (a : Act) (w : World) (K : Act → World → Prop), R w0 w → (∀ d ∈ o.looksAt ops.toArray, finds md ops V a0 o a w d) → (∀ v w', (V i).p v w' → R w w' → K (a.put o.dst v) w') →
    if Region.wanted o (yielded ops.toArray a.tmps) then o.wp P a w K Q else K (a.put o.dst undef) w

def AllDo (f : Nat → Oper → Prop) : Nat → List Oper → Prop
  | _, [] => True
  | i, o :: r => f i o ∧ AllDo f (i + 1) r
theorem AllDo.at {f : Nat → Oper → Prop} : ∀ {k : Nat} {l : List Oper}, AllDo f k l → ∀ i o, l[i]? = some o → f (k + i) o
  | k, [], _, i, o, h => by simp at h
  | k, x :: r, ⟨h1, h2⟩, 0, o, h => by simp at h; subst h; exact h1
  | k, x :: r, ⟨h1, h2⟩, i + 1, o, h => by
    have := AllDo.at h2 i o (by simpa using h)
    rwa [show k + 1 + i = k + (i + 1) from by omega] at this

theorem shaped_at (hok : shaped md ops n = true) (i : Nat) (o : Oper) (ho : ops[i]? = some o) :
    (∀ e ∈ o.after, Region.binds md e = true → e.on < i) ∧ (∀ d, o.dst = some d → d < n ∧ writer ops d = some i) ∧
    (∀ d ∈ o.looksAt ops.toArray, ∀ j, writer ops d = some j → waits md o j = true ∨ ∃ o', ops[j]? = some o' ∧ waits md o' i = true) := by
  have hlt : i < ops.length := (List.getElem?_eq_some_iff.1 ho).1
  have h := List.all_eq_true.1 hok i (List.mem_range.2 hlt)
  rw [ho] at h
  simp only [Bool.and_eq_true] at h
  obtain ⟨⟨h1, h2⟩, h3⟩ := h
  refine ⟨fun e he hb => ?_, fun d hd => ?_, fun d hd j hj => ?_⟩
  · have := Array.all_eq_true_iff_forall_mem.1 h1 e he
    simpa [hb] using this
  · rw [hd] at h2
    simpa using h2
  · have := List.all_eq_true.1 h3 d hd
    rw [hj] at this
    simp only [Bool.or_eq_true] at this
    rcases this with h | h
    · exact .inl h
    · right
      split at h
      · rename_i o' ho'; exact ⟨o', ho', h⟩
      · cases h

/-- how many operations are still to be done -/
def left (n : Nat) (listed : Array Bool) : Nat := (List.range n).countP fun i => !listed.getD i true

theorem left_set (n : Nat) (listed : Array Bool) (hs : listed.size = n) (i : Nat) (hi : i < n) (hl : listed.getD i true = false) : left n (listed.setIfInBounds i true) + 1 = left n listed := by
  unfold left
  have key : ∀ l : List Nat, l.Nodup → (l.countP fun k => !(listed.setIfInBounds i true).getD k true) + (if i ∈ l then 1 else 0) = l.countP fun k => !listed.getD k true := by
    intro l
    induction l with
    | nil => simp
    | cons x r ih =>
      intro hnd
      have hnd' := List.nodup_cons.1 hnd
      have h1 := ih hnd'.2
      by_cases hx : x = i
      · subst hx
        have e1 : (listed.setIfInBounds x true).getD x true = true := by
          simp [Array.getD_eq_getD_getElem?, hs, hi]
        rw [List.countP_cons, List.countP_cons, if_pos (by simp : x ∈ x :: r)]
        rw [if_neg hnd'.1] at h1
        rw [e1, hl]
        simp only [Bool.not_true, Bool.not_false, if_true]
        simp at h1 ⊢
        omega
      · have e1 : (listed.setIfInBounds i true).getD x true = listed.getD x true := by
          simp [Array.getD_eq_getD_getElem?, Array.getElem?_setIfInBounds_ne (Ne.symm hx)]
        rw [List.countP_cons, List.countP_cons, e1]
        have e2 : (i ∈ x :: r) ↔ i ∈ r := by simp [Ne.symm hx]
        simp only [e2]
        omega
  have := key (List.range n) List.nodup_range
  rw [if_pos (List.mem_range.2 hi)] at this
  exact this

theorem all_listed (hok : shaped md ops n = true) (listed : Array Bool) (hs : listed.size = ops.length) (hr : Region.ready md ops.toArray listed = []) : ∀ i, i < ops.length → listed.getD i true = true := by
  intro i
  induction i using Nat.strongRecOn with
  | ind i ih =>
    intro hi
    by_cases h : listed.getD i true = true
    · exact h
    · exfalso
      have hsh := shaped_at hok i _ (List.getElem?_eq_getElem hi)
      have : i ∈ Region.ready md ops.toArray listed := by
        unfold Region.ready
        rw [List.mem_filter]
        refine ⟨by simpa using hi, ?_⟩
        simp only [List.getElem?_toArray, List.getElem?_eq_getElem hi, Option.map_some, Option.getD_some, Bool.and_eq_true, Bool.not_eq_true']
        refine ⟨by simpa using h, ?_⟩
        rw [Array.all_eq_true_iff_forall_mem]
        intro e he
        by_cases hb : Region.binds md e = true
        · have hlt := hsh.1 e he hb
          have := ih e.on hlt (by omega)
          have hlt2 : e.on < listed.size := by omega
          simp [Array.getD_eq_getD_getElem?, Array.getElem?_eq_getElem hlt2] at this ⊢
          simp [this]
        · simp [hb]
      rw [hr] at this
      cases this

theorem wpAny_inv (hrefl : ∀ w, R w w) (htrans : ∀ a b c, R a b → R b c → R a c) (V : Nat → Say R) (a0 : Act) (w0 : World) (hok : shaped md ops a0.tmps.size = true)
    (hops : ∀ i o, ops[i]? = some o → Does P md ops Q V a0 w0 i o)
    (hq : ∀ a w, R w0 w → a.tmps.size = a0.tmps.size → a.defers = a0.defers → (∀ d, ends ops V a0 a w d) → Q .normal a w) :
    ∀ (fuel : Nat) (listed : Array Bool) (a : Act) (w : World), listed.size = ops.length → left ops.length listed ≤ fuel → R w0 w → a.tmps.size = a0.tmps.size → a.defers = a0.defers → (∀ d, holds ops V a0 listed a w d) → (∀ (j : Nat) (o' : Oper), ops[j]? = some o' → listed.getD j true = true → ∀ i, waits md o' i = true → listed.getD i true = true) →
      wpAny P md ops.toArray Q fuel listed a w := by
  have fin : ∀ (listed : Array Bool) (a : Act) (w : World), (∀ i, i < ops.length → listed.getD i true = true) → R w0 w → a.tmps.size = a0.tmps.size → a.defers = a0.defers → (∀ d, holds ops V a0 listed a w d) → Q .normal a w := by
    intro listed a w hall hR hs hd hh
    refine hq a w hR hs hd fun d => ?_
    have := hh d
    unfold holds at this
    unfold ends
    split at this
    · rename_i j hj
      have hjl : j < ops.length := (List.findIdx?_eq_some_iff_getElem.1 hj).1
      rw [hall j hjl] at this
      simpa using this
    · exact this
  intro fuel
  induction fuel with
  | zero =>
    intro listed a w hls hleft hR hs hd hh hcl
    have hall : ∀ i, i < ops.length → listed.getD i true = true := by
      intro i hi
      have h0 : left ops.length listed = 0 := by omega
      unfold left at h0
      rw [List.countP_eq_zero] at h0
      have := h0 i (List.mem_range.2 hi)
      simpa using this
    refine ⟨?_, fin listed a w hall hR hs hd hh⟩
    unfold Region.ready
    rw [List.filter_eq_nil_iff]
    intro i hi
    rw [hall i (by simpa using hi)]
    simp
  | succ fuel ih =>
    intro listed a w hls hleft hR hs hd hh hcl
    refine ⟨fun hr => fin listed a w (all_listed hok listed hls hr) hR hs hd hh, fun i hi => ?_⟩
    unfold Region.ready at hi
    rw [List.mem_filter] at hi
    obtain ⟨hi1, hi2⟩ := hi
    have hil : i < ops.length := by simpa using hi1
    have ho : ops[i]? = some ops[i] := List.getElem?_eq_getElem hil
    simp only [List.getElem?_toArray, ho, Option.map_some, Option.getD_some, Bool.and_eq_true, Bool.not_eq_true'] at hi2
    obtain ⟨hun, haft⟩ := hi2
    have hsh := shaped_at hok i _ ho
    have hdo := hops i _ ho
    unfold wpOp
    simp only [List.getElem?_toArray, ho]
    have hfinds : ∀ d ∈ (ops[i]).looksAt ops.toArray, finds md ops V a0 ops[i] a w d := by
      intro d hd'
      have h1 := hh d
      unfold holds at h1
      unfold finds
      split
      · rename_i j hj
        rw [hj] at h1
        simp only at h1
        have hjl : j < ops.length := (List.findIdx?_eq_some_iff_getElem.1 hj).1
        split
        · rename_i hw
          obtain ⟨e, he, hbe⟩ := waits_mem hw
          simp only [Bool.and_eq_true, beq_iff_eq] at hbe
          have := Array.all_eq_true_iff_forall_mem.1 haft e he
          rw [hbe.1, hbe.2] at this
          have hjl2 : j < listed.size := by omega
          have hj1 : listed.getD j true = true := by
            simp [Array.getD_eq_getD_getElem?, Array.getElem?_eq_getElem hjl2] at this ⊢
            exact this
          rw [if_pos hj1] at h1
          exact h1
        · rename_i hw
          rcases hsh.2.2 d hd' j hj with hx | ⟨o', ho', hx⟩
          · exact absurd hx hw
          · have hj0 : ¬ listed.getD j true = true := by
              intro hjt
              have := hcl j o' ho' hjt i hx
              rw [this] at hun
              cases hun
            rw [if_neg hj0] at h1
            exact h1
      · rename_i hj
        rw [hj] at h1
        exact h1
    have hnext : ∀ v w', (V i).p v w' → R w w' → wpAny P md ops.toArray Q fuel (listed.setIfInBounds i true) (a.put (ops[i]).dst v) w' := by
      intro v w' hv hRw
      have hset : ∀ j, j ≠ i → (listed.setIfInBounds i true).getD j true = listed.getD j true := fun j hj => by
        simp [Array.getD_eq_getD_getElem?, Array.getElem?_setIfInBounds_ne (Ne.symm hj)]
      have hseti : (listed.setIfInBounds i true).getD i true = true := by
        simp [Array.getD_eq_getD_getElem?, show i < listed.size by omega]
      refine ih _ _ _ (by simpa using hls) (by have := left_set ops.length listed hls i hil hun; omega) (htrans _ _ _ hR hRw) ?_ ?_ ?_ ?_
      · unfold Act.put; split <;> simp [hs]
      · unfold Act.put; split <;> simp [hd]
      · intro d
        have h1 := hh d
        have far : (∀ d', (ops[i]).dst = some d' → d' ≠ d) → (a.put (ops[i]).dst v).eval (.tmp d) = a.eval (.tmp d) := fun hne =>
          Act.eval_put fun d' hd' he => hne d' hd' (by cases he; rfl)
        unfold holds at h1 ⊢
        cases hwr : writer ops d with
        | none =>
          rw [hwr] at h1
          simp only at h1 ⊢
          rw [far fun d' hd' he => ?_]
          · exact h1
          · subst he
            rw [(hsh.2.1 _ hd').2] at hwr
            cases hwr
        | some j =>
          rw [hwr] at h1
          simp only at h1 ⊢
          by_cases hji : j = i
          · subst hji
            rw [if_pos hseti]
            have hdst : (ops[j]).dst = some d := by
              have := (List.findIdx?_eq_some_iff_getElem.1 hwr).2.1
              simpa using this
            have hdn := (hsh.2.1 d hdst).1
            have : (a.put (ops[j]).dst v).eval (.tmp d) = v := by
              rw [hdst]
              simp [Act.eval, Act.put, Array.getD_eq_getD_getElem?, hs, hdn]
            rw [this]
            exact hv
          · rw [hset j hji, far fun d' hd' he => ?_]
            · split
              · rename_i hl
                rw [if_pos hl] at h1
                exact (V j).st _ _ _ h1 hRw
              · rename_i hl
                rw [if_neg hl] at h1
                exact h1
            · subst he
              rw [(hsh.2.1 _ hd').2] at hwr
              simp only [Option.some.injEq] at hwr
              exact hji hwr.symm
      · intro j o' ho' hj k hk
        by_cases hki : k = i
        · rw [hki]; exact hseti
        · rw [hset k hki]
          by_cases hji : j = i
          · subst hji
            rw [ho] at ho'
            cases ho'
            obtain ⟨e, he, hbe⟩ := waits_mem hk
            simp only [Bool.and_eq_true, beq_iff_eq] at hbe
            have := Array.all_eq_true_iff_forall_mem.1 haft e he
            rw [hbe.1, hbe.2] at this
            have hkl : k < listed.size := by
              have := hsh.1 e he hbe.1
              omega
            simp [Array.getD_eq_getD_getElem?, Array.getElem?_eq_getElem hkl] at this ⊢
            exact this
          · rw [hset j hji] at hj
            exact hcl j o' ho' hj k hk
    have := hdo a w _ hR hfinds hnext
    split
    · rename_i hw
      rw [if_pos hw] at this
      exact .inl this
    · rename_i hw
      rw [if_neg hw] at this
      exact this

/-- A REGION THAT DRAWS ITS ORDER -/
theorem region_inv {id : Nat} {a0 : Act} {w0 : World} {l : List Oper} (hm : P.follows .mixedOrders = true) (hrefl : ∀ w, R w w) (htrans : ∀ a b c, R a b → R b c → R a c) (hdr : R w0 w0.drew) (V : Nat → Say R) (hok : shaped .any l a0.tmps.size = true)
    (hops : AllDo (Does P .any l Q V a0 w0) 0 l)
    (hq : ∀ a w, R w0 w → a.tmps.size = a0.tmps.size → a.defers = a0.defers → (∀ d, ends l V a0 a w d) → Q .normal a w) : (Code.region id l.toArray true).wp P Q a0 w0 := by
  refine wp_region_any hm ?_
  refine wpAny_inv hrefl htrans V a0 w0 hok (fun i o ho => by simpa using hops.at i o ho) hq _ _ _ _ (by simp) ?_ hdr rfl rfl (fun d => ?_) (fun j o' ho' hj i hw => ?_)
  · unfold left
    refine Nat.le_trans (List.countP_le_length) ?_
    simp
  · unfold holds
    split
    · rename_i j hj
      have hjl : j < l.length := (List.findIdx?_eq_some_iff_getElem.1 hj).1
      simp [Array.getD_eq_getD_getElem?, hjl]
    · rfl
  · exfalso
    have hjl : j < l.length := (List.getElem?_eq_some_iff.1 ho').1
    simp [Array.getD_eq_getD_getElem?, hjl] at hj
end
end Go.Le
