/- A region that draws its order, where a part of memory stays and each slot's value is settled: no order is walked. No program in sight. -/
import Derived.Test.YtpaebopmppbjbaaGreatDoorAny
import Derived.Test.YtpaebopmppbjbaaGreatDoorSepM
set_option linter.unusedVariables false
set_option linter.unusedSimpArgs false
namespace Go.Le
open Go Go.RowKit
/-- a slot's value -/
abbrev Vals := Nat → Value → Prop
/-- every slot that was written holds what u tells -/
def putAll (u : Nat → Value) : Act → List Oper → Act
  | a, [] => a
  | a, o :: r => putAll u (match o.dst with | some d => a.put (some d) (u d) | none => a) r

theorem putAll_size (u : Nat → Value) : ∀ (l : List Oper) (a : Act), (putAll u a l).tmps.size = a.tmps.size
  | [], _ => rfl
  | o :: r, a => by
    unfold putAll
    rw [putAll_size u r]
    split
    · simp [Act.put]
    · rfl
theorem putAll_defers (u : Nat → Value) : ∀ (l : List Oper) (a : Act), (putAll u a l).defers = a.defers
  | [], _ => rfl
  | o :: r, a => by
    unfold putAll
    rw [putAll_defers u r]
    split
    · simp [Act.put]
    · rfl
theorem putAll_at (u : Nat → Value) (d : Nat) : ∀ (l : List Oper) (a : Act), d < a.tmps.size → (putAll u a l).tmps[d]? = if (∃ o ∈ l, o.dst = some d) then some (u d) else a.tmps[d]?
  | [], a, _ => by simp [putAll]
  | o :: r, a, h => by
    unfold putAll
    rw [putAll_at u d r _ (by split <;> simp [Act.put, h])]
    by_cases hr : ∃ o ∈ r, o.dst = some d
    · rw [if_pos hr, if_pos (by obtain ⟨x, h1, h2⟩ := hr; exact ⟨x, by simp [h1], h2⟩)]
    · rw [if_neg hr]
      by_cases ho : o.dst = some d
      · rw [if_pos ⟨o, by simp, ho⟩, ho]
        simp [Act.put, h]
      · rw [if_neg (by rintro ⟨x, h1, h2⟩; rcases List.mem_cons.1 h1 with rfl | h1; exact ho h2; exact hr ⟨x, h1, h2⟩)]
        cases hd : o.dst with
        | none => rfl
        | some d' =>
          have hne : d' ≠ d := fun e => ho (by rw [hd, e])
          simp [Act.put, Array.getElem?_setIfInBounds_ne hne]
theorem putAll_eq {l : List Oper} {a a0 : Act} (hs : a.tmps.size = a0.tmps.size) (hd : a.defers = a0.defers) (h : ∀ d, writer l d = none → a.eval (.tmp d) = a0.eval (.tmp d)) : a = putAll (fun d => a.eval (.tmp d)) a0 l := by
  have ht : a.tmps = (putAll (fun d => a.eval (.tmp d)) a0 l).tmps := by
    apply Array.ext_getElem?
    intro d
    by_cases hlt : d < a0.tmps.size
    · rw [putAll_at _ d l a0 hlt]
      have ea : a.tmps[d]? = some (a.eval (.tmp d)) := by
        simp [Act.eval, Array.getD_eq_getD_getElem?, Array.getElem?_eq_getElem (show d < a.tmps.size by omega)]
      by_cases hw : ∃ o ∈ l, o.dst = some d
      · rw [if_pos hw, ea]
      · rw [if_neg hw, ea, h d (by
          unfold writer
          rw [List.findIdx?_eq_none_iff]
          intro x hx
          have : ¬ x.dst = some d := fun e => hw ⟨x, hx, e⟩
          simpa using this)]
        simp [Act.eval, Array.getD_eq_getD_getElem?, Array.getElem?_eq_getElem hlt]
    · rw [Array.getElem?_eq_none (by omega), Array.getElem?_eq_none (by rw [putAll_size]; omega)]
  have h2 := putAll_defers (fun d => a.eval (.tmp d)) l a0
  cases a with
  | mk t df =>
    simp only at ht hd
    generalize putAll (fun d => (Act.mk t df).eval (.tmp d)) a0 l = z at *
    cases z
    simp_all

section
variable {P : Program} {Q : Exit → Act → World → Prop} {wb : World} {A : HP} {V : Vals} {a0 : Act} {w0 : World} {l : List Oper}
/-- what an operation finds in a slot: a value that the region settles, or what stood there -/
def See (l : List Oper) (V : Vals) (a0 : Act) (o : Oper) (a : Act) (d : Tmp) : Prop :=
  match writer l d with
  | some j => if waits .any o j = true then V j (a.eval (.tmp d)) else a.eval (.tmp d) = a0.eval (.tmp d)
  | none => a.eval (.tmp d) = a0.eval (.tmp d)
theorem See.new {o : Oper} {a : Act} {d : Tmp} (h : See l V a0 o a d) (j : Nat) (hw : writer l d = some j) (hb : waits .any o j = true) : V j (a.eval (.tmp d)) := by
  unfold See at h; rw [hw] at h; simp only [hb, if_true] at h; exact h
theorem See.old {o : Oper} {a : Act} {d : Tmp} (h : See l V a0 o a d) (hw : writer l d = none) : a.eval (.tmp d) = a0.eval (.tmp d) := by
  unfold See at h; rw [hw] at h; exact h
/-- a guard that stands -/
def Stands (l : List Oper) (V : Vals) (o : Oper) : Prop :=
  match o.guard with
  | none => True
  | some (g, b) => ∃ d, ((l[g]?).bind (·.dst)) = some d ∧ writer l d = some g ∧ waits .any o g = true ∧ ∀ x, V g x → x = .bool b
/-- what has to be shown of one operation -/
def Fine (P : Program) (Q : Exit → Act → World → Prop) (wb : World) (A : HP) (V : Vals) (a0 : Act) (l : List Oper) (i : Nat) (o : Oper) : Prop :=
  Stands l V o ∧ ∀ (a : Act) (w : World) (K : Act → World → Prop), Mem wb w A → (∀ d ∈ o.looksAt l.toArray, See l V a0 o a d) → (∀ v w', V i v → Mem wb w' A → K (a.put o.dst v) w') → o.wp P a w K Q

/-- an operation that reads -/
theorem Fine.run {i : Nat} {o : Oper} (hst : Stands l V o) (v : Value) (hv : V i v) (h : ∀ a w, Mem wb w A → (∀ d ∈ o.looksAt l.toArray, See l V a0 o a d) → (execOp a.eval o).run P w = .ok (.value v) w) : Fine P Q wb A V a0 l i o := by
  refine ⟨hst, fun a w K hm hf hK => ?_⟩
  unfold Oper.wp
  rw [h a w hm hf]
  exact hK v w hv hm
/-- a call -/
theorem Fine.call {i : Nat} {o : Oper} (hst : Stands l V o) (f : FuncId) (args : Array Value) (h : ∀ a w, (∀ d ∈ o.looksAt l.toArray, See l V a0 o a d) → (execOp a.eval o).run P w = .ok (.enter f args) w)
    (hc : ∀ w, Mem wb w A → Calls P f args w fun e w' => ∃ v, e = .returned v ∧ V i v ∧ Mem wb w' A) : Fine P Q wb A V a0 l i o := by
  refine ⟨hst, fun a w K hm hf hK => ?_⟩
  unfold Oper.wp
  rw [h a w hf]
  refine (hc w hm).mono ?_
  rintro e w' ⟨v, rfl, hv, hm'⟩
  exact hK v w' hv hm'
end
end Go.Le
