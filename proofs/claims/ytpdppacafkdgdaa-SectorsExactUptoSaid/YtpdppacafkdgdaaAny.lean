/- A region that draws its order, by what holds of each operation's value in every world that is reached: no order is walked. No program in sight. -/
import Derived.Test.YtpdppacafkdgdaaMemM
import Derived.Orders
set_option linter.unusedVariables false
set_option linter.unusedSimpArgs false
namespace Go.Le
open Go Go.RowKit

/-- what is said of a value, and stays true as the world goes on -/
structure Say (R : World → World → Prop) where
  p : Value → World → Prop
  st : ∀ v w1 w2, p v w1 → R w1 w2 → p v w2

/-- which operation writes a slot -/
def writer (ops : List Oper) (d : Tmp) : Option Nat := ops.findIdx? fun o => o.dst == some d
/-- operation i waits for operation j -/
def waits (md : Region.Mode) (o : Oper) (j : Nat) : Bool := o.after.any fun e => Region.binds md e && e.on == j

theorem waits_mem {md : Region.Mode} {o : Oper} {j : Nat} (h : waits md o j = true) : ∃ e, e ∈ o.after ∧ (Region.binds md e && e.on == j) = true := by
  unfold waits at h
  rw [← Array.any_toList] at h
  obtain ⟨e, he, hb⟩ := List.any_eq_true.1 h
  exact ⟨e, by simpa using he, hb⟩
/-- the region's shape: each operation waits for earlier ones alone; writes a slot of its own, within the frame; each slot that it looks at is written by one that it waits for, or by one that waits for it -/
def shaped (md : Region.Mode) (ops : List Oper) (n : Nat) : Bool :=
  (List.range ops.length).all fun i =>
    match ops[i]? with
    | none => true
    | some o =>
      (o.after.all fun e => !Region.binds md e || decide (e.on < i)) &&
      (match o.dst with
       | none => true
       | some d => decide (d < n) && writer ops d == some i) &&
      ((o.looksAt ops.toArray).all fun d =>
        match writer ops d with
        | none => true
        | some j => waits md o j || (match ops[j]? with | some o' => waits md o' i | none => false))

section
variable {P : Program} {md : Region.Mode} {n : Nat} {ops : List Oper} {Q : Exit → Act → World → Prop} {R : World → World → Prop}

/-- what operation o finds in a slot -/
def finds (md : Region.Mode) (ops : List Oper) (V : Nat → Say R) (a0 : Act) (o : Oper) (a : Act) (w : World) (d : Tmp) : Prop :=
  match writer ops d with
  | some j => if waits md o j = true then (V j).p (a.eval (.tmp d)) w else a.eval (.tmp d) = a0.eval (.tmp d)
  | none => a.eval (.tmp d) = a0.eval (.tmp d)
/-- what a slot holds, where these operations are done -/
def holds (ops : List Oper) (V : Nat → Say R) (a0 : Act) (listed : Array Bool) (a : Act) (w : World) (d : Tmp) : Prop :=
  match writer ops d with
  | some j => if listed.getD j true = true then (V j).p (a.eval (.tmp d)) w else a.eval (.tmp d) = a0.eval (.tmp d)
  | none => a.eval (.tmp d) = a0.eval (.tmp d)
def AllDo (f : Nat → Oper → Prop) : Nat → List Oper → Prop
  | _, [] => True
  | i, o :: r => f i o ∧ AllDo f (i + 1) r
theorem AllDo.at {f : Nat → Oper → Prop} : ∀ {k : Nat} {l : List Oper}, AllDo f k l → ∀ i o, l[i]? = some o → f (k + i) o
  | k, [], _, i, o, h => by simp at h
  | k, x :: r, ⟨h1, h2⟩, 0, o, h => by simp at h; subst h; exact h1
  | k, x :: r, ⟨h1, h2⟩, i + 1, o, h => by
    have := AllDo.at h2 i o (by simpa using h)
    rwa [show k + 1 + i = k + (i + 1) from by omega] at this

theorem shaped_at (hok : shaped md ops n = true) (i : Nat) (o : Oper) (ho : ops[i]? = some o) :
    (∀ e ∈ o.after, Region.binds md e = true → e.on < i) ∧ (∀ d, o.dst = some d → d < n ∧ writer ops d = some i) ∧
    (∀ d ∈ o.looksAt ops.toArray, ∀ j, writer ops d = some j → waits md o j = true ∨ ∃ o', ops[j]? = some o' ∧ waits md o' i = true) := by
  have hlt : i < ops.length := (List.getElem?_eq_some_iff.1 ho).1
  have h := List.all_eq_true.1 hok i (List.mem_range.2 hlt)
  rw [ho] at h
  simp only [Bool.and_eq_true] at h
  obtain ⟨⟨h1, h2⟩, h3⟩ := h
  refine ⟨fun e he hb => ?_, fun d hd => ?_, fun d hd j hj => ?_⟩
  · have := Array.all_eq_true_iff_forall_mem.1 h1 e he
    simpa [hb] using this
  · rw [hd] at h2
    simpa using h2
  · have := List.all_eq_true.1 h3 d hd
    rw [hj] at this
    simp only [Bool.or_eq_true] at this
    rcases this with h | h
    · exact .inl h
    · right
      split at h
      · rename_i o' ho'; exact ⟨o', ho', h⟩
      · cases h

/-- how many operations are still to be done -/
def left (n : Nat) (listed : Array Bool) : Nat := (List.range n).countP fun i => !listed.getD i true

theorem left_set (n : Nat) (listed : Array Bool) (hs : listed.size = n) (i : Nat) (hi : i < n) (hl : listed.getD i true = false) : left n (listed.setIfInBounds i true) + 1 = left n listed := by
  unfold left
  have key : ∀ l : List Nat, l.Nodup → (l.countP fun k => !(listed.setIfInBounds i true).getD k true) + (if i ∈ l then 1 else 0) = l.countP fun k => !listed.getD k true := by
    intro l
    induction l with
    | nil => simp
    | cons x r ih =>
      intro hnd
      have hnd' := List.nodup_cons.1 hnd
      have h1 := ih hnd'.2
      by_cases hx : x = i
      · subst hx
        have e1 : (listed.setIfInBounds x true).getD x true = true := by
          simp [Array.getD_eq_getD_getElem?, hs, hi]
        rw [List.countP_cons, List.countP_cons, if_pos (by simp : x ∈ x :: r)]
        rw [if_neg hnd'.1] at h1
        rw [e1, hl]
        simp only [Bool.not_true, Bool.not_false, if_true]
        simp at h1 ⊢
        omega
      · have e1 : (listed.setIfInBounds i true).getD x true = listed.getD x true := by
          simp [Array.getD_eq_getD_getElem?, Array.getElem?_setIfInBounds_ne (Ne.symm hx)]
        rw [List.countP_cons, List.countP_cons, e1]
        have e2 : (i ∈ x :: r) ↔ i ∈ r := by simp [Ne.symm hx]
        simp only [e2]
        omega
  have := key (List.range n) List.nodup_range
  rw [if_pos (List.mem_range.2 hi)] at this
  exact this

theorem all_listed (hok : shaped md ops n = true) (listed : Array Bool) (hs : listed.size = ops.length) (hr : Region.ready md ops.toArray listed = []) : ∀ i, i < ops.length → listed.getD i true = true := by
  intro i
  induction i using Nat.strongRecOn with
  | ind i ih =>
    intro hi
    by_cases h : listed.getD i true = true
    · exact h
    · exfalso
      have hsh := shaped_at hok i _ (List.getElem?_eq_getElem hi)
      have : i ∈ Region.ready md ops.toArray listed := by
        unfold Region.ready
        rw [List.mem_filter]
        refine ⟨by simpa using hi, ?_⟩
        simp only [List.getElem?_toArray, List.getElem?_eq_getElem hi, Option.map_some, Option.getD_some, Bool.and_eq_true, Bool.not_eq_true']
        refine ⟨by simpa using h, ?_⟩
        rw [Array.all_eq_true_iff_forall_mem]
        intro e he
        by_cases hb : Region.binds md e = true
        · have hlt := hsh.1 e he hb
          have := ih e.on hlt (by omega)
          have hlt2 : e.on < listed.size := by omega
          simp [Array.getD_eq_getD_getElem?, Array.getElem?_eq_getElem hlt2] at this ⊢
          simp [this]
        · simp [hb]
      rw [hr] at this
      cases this

end
end Go.Le
