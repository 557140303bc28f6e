/- A region that draws its order, its values settled; operations may make memory of their own, or turn what the region owns: no order is walked. No program in sight. -/
import Derived.Test.YtpdppacafkdgdaaReg
set_option linter.unusedVariables false
set_option linter.unusedSimpArgs false
namespace Go.Le
open Go Go.RowKit

/-- the slot that operation j has written -/
def valOf (l : List Oper) (a : Act) (j : Nat) : Value := match (l[j]?).bind (·.dst) with | some d => a.eval (.tmp d) | none => undef
/-- what the operations that are done have made -/
def madeBy (l : List Oper) (Bs : List (Nat × (Value → HP))) (L : Nat → Bool) (a : Act) : HP := all (Bs.map fun x => if L x.1 then x.2 (valOf l a x.1) else emp)
/-- some of a list -/
def sel {α : Type} : List Bool → List α → List α
  | _, [] => []
  | [], _ => []
  | true :: m, x :: r => x :: sel m r
  | false :: m, _ :: r => sel m r
def stars : List HP → HP → HP
  | [], R => R
  | A :: l, R => A * stars l R
def doneSet (L : Nat → Bool) (i : Nat) : Nat → Bool := fun j => j == i || L j

section
variable {P : Program} {Q : Exit → Act → World → Prop} {wb : World} {A : (Nat → Bool) → HP} {V : Vals} {Bs : List (Nat × (Value → HP))} {a0 : Act} {w0 : World} {l : List Oper}

/-- what operation i makes -/
def mk (Bs : List (Nat × (Value → HP))) (i : Nat) (v : Value) : HP := match Bs.find? (·.1 == i) with | some x => x.2 v | none => emp
/-- what has to be shown of one operation -/
def Fine2 (P : Program) (Q : Exit → Act → World → Prop) (wb : World) (A : (Nat → Bool) → HP) (V : Vals) (Bs : List (Nat × (Value → HP))) (a0 : Act) (l : List Oper) (i : Nat) (o : Oper) : Prop :=
  (Stands l V o ∧ ∀ (L : Nat → Bool) (a : Act) (w : World) (K : Act → World → Prop) (R : HP), L i = false → (∀ j, waits .any o j = true → L j = true) → Mem wb w (A L * R) →
    (∀ m : List Bool, (sel m Bs).all (fun x => waits .any o x.1) = true → ∃ R', R = stars ((sel m Bs).map fun x => x.2 (valOf l a x.1)) R') → (∀ d ∈ o.looksAt l.toArray, See l V a0 o a d) →
    (∀ v w', V i v → Mem wb w' (A (doneSet L i) * (mk Bs i v * R)) → K (a.put o.dst v) w') → o.wp P a w K Q) ∨
  ((∃ g b d, o.guard = some (g, b) ∧ ((l[g]?).bind (·.dst)) = some d ∧ writer l d = some g ∧ waits .any o g = true ∧ ∀ x, V g x → x = .bool (!b)) ∧ V i undef ∧ (∀ L, A (doneSet L i) = A L) ∧ mk Bs i undef = emp)

theorem madeBy_congr {L L' : Nat → Bool} {a a' : Act} (h : ∀ x ∈ Bs, L x.1 = L' x.1 ∧ (L x.1 = true → valOf l a x.1 = valOf l a' x.1)) : madeBy l Bs L a = madeBy l Bs L' a' := by
  unfold madeBy
  congr 1
  apply List.map_congr_left
  intro x hx
  obtain ⟨h1, h2⟩ := h x hx
  rw [← h1]
  by_cases hl : L x.1 = true
  · simp only [hl, if_true]; rw [h2 hl]
  · simp only [hl]
    rfl
theorem madeBy_set (hnd : (Bs.map (·.1)).Nodup) {L : Nat → Bool} {a a' : Act} {i : Nat} (hL : L i = false) (h : ∀ x ∈ Bs, x.1 ≠ i → L x.1 = true → valOf l a' x.1 = valOf l a x.1) :
    madeBy l Bs (doneSet L i) a' = mk Bs i (valOf l a' i) * madeBy l Bs L a := by
  induction Bs with
  | nil => simp [madeBy, mk, all, sep_emp]
  | cons x r ih =>
    simp only [List.map_cons, List.nodup_cons] at hnd
    have e1 : ∀ (L : Nat → Bool) (a : Act), madeBy l (x :: r) L a = (if L x.1 then x.2 (valOf l a x.1) else emp) * madeBy l r L a := fun _ _ => rfl
    rw [e1, e1]
    by_cases hx : x.1 = i
    · have hm : mk (x :: r) i (valOf l a' i) = x.2 (valOf l a' i) := by simp [mk, hx]
      have hr : madeBy l r (doneSet L i) a' = madeBy l r L a := by
        apply madeBy_congr
        intro y hy
        have hne : y.1 ≠ i := fun e => hnd.1 (by rw [hx, ← e]; exact List.mem_map_of_mem hy)
        have hd : doneSet L i y.1 = L y.1 := by simp [doneSet, hne]
        refine ⟨hd, fun hl => ?_⟩
        exact h y (List.mem_cons_of_mem _ hy) hne (by rw [← hd]; exact hl)
      rw [hm, hr, hx]
      simp only [doneSet, beq_self_eq_true, Bool.true_or, if_true, hL]
      rw [show (if (false : Bool) = true then x.2 (valOf l a i) else emp) = emp from rfl, emp_sep]
    · have hm : mk (x :: r) i (valOf l a' i) = mk r i (valOf l a' i) := by simp [mk, hx]
      rw [hm, ih hnd.2 (fun y hy => h y (List.mem_cons_of_mem _ hy)), sep_left_comm]
      congr 1
      have hd : doneSet L i x.1 = L x.1 := by simp [doneSet, hx]
      rw [hd]
      by_cases hl : L x.1 = true
      · simp only [hl, if_true]; rw [h x (by simp) hx hl]
      · simp only [hl]
        rfl
theorem madeBy_sel {L : Nat → Bool} {a : Act} : ∀ {Bs : List (Nat × (Value → HP))} (m : List Bool), (∀ x ∈ sel m Bs, L x.1 = true) → ∃ R', madeBy l Bs L a = stars ((sel m Bs).map fun x => x.2 (valOf l a x.1)) R'
  | [], _, _ => ⟨_, by simp only [sel, List.map_nil, stars]; rfl⟩
  | y :: r, [], _ => ⟨_, by simp only [sel, List.map_nil, stars]; rfl⟩
  | y :: r, true :: m, h => by
    have e1 : madeBy l (y :: r) L a = (if L y.1 then y.2 (valOf l a y.1) else emp) * madeBy l r L a := rfl
    obtain ⟨R', h'⟩ := madeBy_sel (Bs := r) m (fun x hx => h x (by simp [sel, hx]))
    have hy := h y (by simp [sel])
    rw [e1, hy, h']
    exact ⟨R', rfl⟩
  | y :: r, false :: m, h => by
    have e1 : madeBy l (y :: r) L a = (if L y.1 then y.2 (valOf l a y.1) else emp) * madeBy l r L a := rfl
    obtain ⟨R', h'⟩ := madeBy_sel (Bs := r) m (fun x hx => h x (by simpa [sel] using hx))
    rw [e1, h']
    refine ⟨(if L y.1 then y.2 (valOf l a y.1) else emp) * R', ?_⟩
    simp only [sel]
    generalize (sel m r).map (fun x => x.2 (valOf l a x.1)) = q
    clear h'
    induction q with
    | nil => rfl
    | cons A q ih => simp only [stars]; rw [sep_left_comm, ih]
theorem sel_mem {α : Type} {x : α} : ∀ {l : List α} {m : List Bool}, x ∈ sel m l → x ∈ l
  | [], _, h => by simp [sel] at h
  | y :: r, [], h => by simp [sel] at h
  | y :: r, true :: m, h => by
    simp only [sel, List.mem_cons] at h
    rcases h with rfl | h
    · simp
    · exact List.mem_cons_of_mem _ (sel_mem h)
  | y :: r, false :: m, h => List.mem_cons_of_mem _ (sel_mem (by simpa [sel] using h))

/-- A REGION THAT DRAWS ITS ORDER, its values settled, its memory by what is done -/
theorem region_mem {id : Nat} (hm : P.follows .mixedOrders = true) (V : Vals) (A : (Nat → Bool) → HP) (Bs : List (Nat × (Value → HP))) (hA : Mem wb w0 (A fun _ => false)) (hAe : ∀ L L' : Nat → Bool, (∀ j, j < l.length → L j = L' j) → A L = A L')
    (hnd : (Bs.map (·.1)).Nodup) (hbs : Bs.all (fun x => decide (x.1 < l.length) && ((l[x.1]?).bind (·.dst)).isSome) = true) (hok : shaped .any l a0.tmps.size = true) (hops : AllDo (Fine2 P Q wb A V Bs a0 l) 0 l)
    (hq : ∀ (u : Nat → Value) w, (∀ d j, writer l d = some j → V j (u d)) → Mem wb w (A (fun _ => true) * all (Bs.map fun x => x.2 (match (l[x.1]?).bind (·.dst) with | some d => u d | none => undef))) → Q .normal (putAll u a0 l) w) : (Code.region id l.toArray true).wp P Q a0 w0 := by
  have hbs' : ∀ x ∈ Bs, x.1 < l.length ∧ ∃ d, (l[x.1]?).bind (·.dst) = some d := by
    intro x hx
    have := List.all_eq_true.1 hbs x hx
    simp only [Bool.and_eq_true, decide_eq_true_eq, Option.isSome_iff_exists] at this
    exact this
  let fn : Array Bool → Nat → Bool := fun listed j => listed.getD j false
  refine region_gen hm (fun listed a w => Mem wb w (A (fn listed) * madeBy l Bs (fn listed) a)) ?_ V hok ?_ ?_
  · have e : madeBy l Bs (fn (Array.replicate l.length false)) a0 = emp := by
      rw [show emp = all (Bs.map fun _ => emp) from ?_]
      · unfold madeBy
        congr 1
        apply List.map_congr_left
        intro x hx
        have : fn (Array.replicate l.length false) x.1 = false := by simp [fn, Array.getD_eq_getD_getElem?, Array.getElem?_replicate]; split <;> rfl
        simp [this]
      · clear hnd hbs hops hq hbs'
        induction Bs with
        | nil => rfl
        | cons x r ih => rw [List.map_cons, all, emp_sep]; exact ih
    simp only [e, sep_emp]
    rw [hAe (fn (Array.replicate l.length false)) (fun _ => false) (fun j hj => by simp [fn, Array.getD_eq_getD_getElem?, Array.getElem?_replicate]; split <;> rfl)]
    exact hA.drew
  · have key : ∀ (k : Nat) (r : List Oper), (∀ i o, r[i]? = some o → l[k + i]? = some o) → AllDo (Fine2 P Q wb A V Bs a0 l) k r → AllDo (Does2 P .any l Q (fun listed a w => Mem wb w (A (fn listed) * madeBy l Bs (fn listed) a)) V a0) k r := by
      intro k r
      induction r generalizing k with
      | nil => intro _ _; trivial
      | cons o r ih =>
        rintro hl ⟨hdo, h2⟩
        have hlo : l[k]? = some o := hl 0 o rfl
        have hkl : k < l.length := (List.getElem?_eq_some_iff.1 hlo).1
        have hsh := shaped_at hok k o hlo
        refine ⟨fun listed a w K hls hun hall hI hs hf hK => ?_, ih (k + 1) (fun i o' ho' => by have := hl (i + 1) o' (by simpa using ho'); rw [show k + 1 + i = k + (i + 1) by omega]; exact this) h2⟩
        have hfn : fn listed k = false := by
          have hk2 : k < listed.size := by omega
          simp [fn, Array.getD_eq_getD_getElem?, Array.getElem?_eq_getElem hk2] at hun ⊢
          exact hun
        have hset : A (fn (listed.setIfInBounds k true)) = A (doneSet (fn listed) k) := hAe _ _ fun j hj => by
          by_cases hjk : j = k
          · subst hjk; simp [fn, doneSet, Array.getD_eq_getD_getElem?, show j < listed.size by omega]
          · simp [fn, doneSet, hjk, Array.getD_eq_getD_getElem?, Array.getElem?_setIfInBounds_ne (Ne.symm hjk)]
        have hvo : ∀ v, ∀ x ∈ Bs, x.1 ≠ k → valOf l (a.put o.dst v) x.1 = valOf l a x.1 := by
          intro v x hx hne
          obtain ⟨hxl, d, hd⟩ := hbs' x hx
          unfold valOf
          rw [hd]
          refine Act.eval_put fun d' hd' he => ?_
          cases he
          have w1 := (hsh.2.1 d hd').2
          cases ho2 : l[x.1]? with
          | none => rw [ho2] at hd; cases hd
          | some o2 =>
            rw [ho2] at hd
            have w2 := ((shaped_at hok x.1 o2 ho2).2.1 d hd).2
            rw [w1] at w2
            exact hne (Option.some.inj w2).symm
        have hmk : ∀ v, mk Bs k (valOf l (a.put o.dst v) k) = mk Bs k v := by
          intro v
          unfold mk
          cases hfi : Bs.find? (·.1 == k) with
          | none => rfl
          | some x =>
            have hx := List.mem_of_find?_eq_some hfi
            have hxk := List.find?_some hfi
            simp only [beq_iff_eq] at hxk
            obtain ⟨hxl, d, hd⟩ := hbs' x hx
            rw [hxk, hlo] at hd
            simp only [Option.bind_some] at hd
            have hdn := (hsh.2.1 d hd).1
            have : valOf l (a.put o.dst v) k = v := by
              unfold valOf
              rw [hlo]
              simp only [Option.bind_some, hd]
              simp [Act.eval, Act.put, Array.getD_eq_getD_getElem?, hs, hdn]
            simp only [this]
        have hmade : ∀ v, madeBy l Bs (fn (listed.setIfInBounds k true)) (a.put o.dst v) = mk Bs k v * madeBy l Bs (fn listed) a := by
          intro v
          rw [← hmk v, ← madeBy_set (l := l) hnd hfn (fun x hx hne _ => hvo v x hx hne)]
          apply madeBy_congr
          intro x hx
          have : fn (listed.setIfInBounds k true) x.1 = doneSet (fn listed) k x.1 := by
            have hxl := (hbs' x hx).1
            by_cases hjk : x.1 = k
            · simp [fn, doneSet, hjk, Array.getD_eq_getD_getElem?, show k < listed.size by omega]
            · simp [fn, doneSet, hjk, Array.getD_eq_getD_getElem?, Array.getElem?_setIfInBounds_ne (Ne.symm hjk)]
          exact ⟨this, fun _ => rfl⟩
        rcases hdo with ⟨hst, hdo⟩ | ⟨⟨g, b, d, hg, h1, h3, h4, h5⟩, hvu, hAi, hmu⟩
        · have hw : Region.wanted o (yielded l.toArray a.tmps) = true := by
            unfold Stands at hst
            unfold Region.wanted
            cases hg : o.guard with
            | none => rfl
            | some gb =>
              obtain ⟨g, b⟩ := gb
              rw [hg] at hst
              obtain ⟨d, h1, h3, h4, h5⟩ := hst
              have hsee : V g (a.eval (.tmp d)) := by
                have := hf d (by
                  unfold Oper.looksAt
                  rw [hg]
                  simp [h1])
                unfold finds2 at this
                rw [h3] at this
                simp only [h4, if_true] at this
                exact this
              have hv := h5 _ hsee
              have ht : a.tmps[d]? = some (.bool b) := by
                simp only [Act.eval, Array.getD_eq_getD_getElem?] at hv
                cases hx : a.tmps[d]? with
                | none => rw [hx] at hv; cases hv
                | some y => rw [hx] at hv; simp at hv; rw [hv]
              simp only [List.getElem?_toArray, yielded]
              rw [h1]
              simp [ht]
          rw [if_pos hw]
          refine hdo (fn listed) a w K _ hfn (fun j hj => ?_) hI (fun m hwm => ?_) (fun d hd => hf d hd) (fun v w' hv hm' => hK v w' hv ?_)
          · have h1 := hall j hj
            obtain ⟨e, he, hbe⟩ := waits_mem hj
            simp only [Bool.and_eq_true, beq_iff_eq] at hbe
            have h2 := hsh.1 e he hbe.1
            rw [hbe.2] at h2
            have hj2 : j < listed.size := by omega
            simp [fn, Array.getD_eq_getD_getElem?, Array.getElem?_eq_getElem hj2] at h1 ⊢
            exact h1
          · refine madeBy_sel m fun x hx => ?_
            have hwx := List.all_eq_true.1 hwm x hx
            have h1 := hall x.1 hwx
            have hj2 : x.1 < listed.size := by have := (hbs' x (sel_mem hx)).1; omega
            simp [fn, Array.getD_eq_getD_getElem?, Array.getElem?_eq_getElem hj2] at h1 ⊢
            exact h1
          · show Mem wb w' (A (fn (listed.setIfInBounds k true)) * madeBy l Bs (fn (listed.setIfInBounds k true)) (a.put o.dst v))
            rw [hset, hmade]
            exact hm'
        · have hw : Region.wanted o (yielded l.toArray a.tmps) = false := by
            have hsee : V g (a.eval (.tmp d)) := by
              have := hf d (by
                unfold Oper.looksAt
                rw [hg]
                simp [h1])
              unfold finds2 at this
              rw [h3] at this
              simp only [h4, if_true] at this
              exact this
            have hv := h5 _ hsee
            have ht : a.tmps[d]? = some (.bool (!b)) := by
              simp only [Act.eval, Array.getD_eq_getD_getElem?] at hv
              cases hx : a.tmps[d]? with
              | none => rw [hx] at hv; cases hv
              | some y => rw [hx] at hv; simp at hv; rw [hv]
            unfold Region.wanted
            rw [hg]
            simp only [List.getElem?_toArray, yielded]
            rw [h1]
            simp [ht]
          rw [hw]
          simp only [Bool.false_eq_true, if_false]
          refine hK undef w hvu ?_
          show Mem wb w (A (fn (listed.setIfInBounds k true)) * madeBy l Bs (fn (listed.setIfInBounds k true)) (a.put o.dst undef))
          rw [hset, hAi, hmade, hmu, emp_sep]
          exact hI
    exact key 0 l (fun i o ho => by simpa using ho) hops
  · intro listed a w hall hls hI hs hd he
    have e := putAll_eq (l := l) hs hd (fun d hw => by
      have := he d
      unfold ends2 at this
      rw [hw] at this
      exact this)
    have hfn : ∀ j, j < l.length → fn listed j = true := by
      intro j hj
      have h1 := hall j hj
      have hj2 : j < listed.size := by omega
      simp [fn, Array.getD_eq_getD_getElem?, Array.getElem?_eq_getElem hj2] at h1 ⊢
      exact h1
    rw [e]
    refine hq _ w (fun d j hw => ?_) ?_
    · have := he d
      unfold ends2 at this
      rw [hw] at this
      exact this
    · rw [hAe (fn listed) (fun _ => true) (fun j hj => hfn j hj)] at hI
      refine hI.eq ?_
      congr 1
      unfold madeBy
      congr 1
      apply List.map_congr_left
      intro x hx
      rw [hfn _ (hbs' x hx).1]
      rfl

/-- an operation that reads -/
theorem Fine2.run {i : Nat} {o : Oper} (hst : Stands l V o) (v : Value) (hv : V i v) (hAi : ∀ L, A (doneSet L i) = A L) (hB : mk Bs i v = emp)
    (h : ∀ L a w R, (∀ j, waits .any o j = true → L j = true) → Mem wb w (A L * R) → (∀ m : List Bool, (sel m Bs).all (fun x => waits .any o x.1) = true → ∃ R', R = stars ((sel m Bs).map fun x => x.2 (valOf l a x.1)) R') → (∀ d ∈ o.looksAt l.toArray, See l V a0 o a d) → (execOp a.eval o).run P w = .ok (.value v) w) : Fine2 P Q wb A V Bs a0 l i o := by
  refine .inl ⟨hst, fun L a w K R hL hw hm hmk hf hK => ?_⟩
  unfold Oper.wp
  rw [h L a w R hw hm hmk hf]
  refine hK v w hv ?_
  rw [hAi, hB, emp_sep]
  exact hm
/-- a call -/
theorem Fine2.call {i : Nat} {o : Oper} (hst : Stands l V o) (f : FuncId) (args : Array Value) (h : ∀ a w, (∀ d ∈ o.looksAt l.toArray, See l V a0 o a d) → (execOp a.eval o).run P w = .ok (.enter f args) w)
    (hc : ∀ L a w R, L i = false → (∀ j, waits .any o j = true → L j = true) → Mem wb w (A L * R) → (∀ m : List Bool, (sel m Bs).all (fun x => waits .any o x.1) = true → ∃ R', R = stars ((sel m Bs).map fun x => x.2 (valOf l a x.1)) R') → (∀ d ∈ o.looksAt l.toArray, See l V a0 o a d) →
      Calls P f args w fun e w' => ∃ v, e = .returned v ∧ V i v ∧ Mem wb w' (A (doneSet L i) * (mk Bs i v * R))) : Fine2 P Q wb A V Bs a0 l i o := by
  refine .inl ⟨hst, fun L a w K R hL hw hm hmk hf hK => ?_⟩
  unfold Oper.wp
  rw [h a w hf]
  refine (hc L a w R hL hw hm hmk hf).mono ?_
  rintro e w' ⟨v, rfl, hv, hm'⟩
  exact hK v w' hv hm'
end
end Go.Le
