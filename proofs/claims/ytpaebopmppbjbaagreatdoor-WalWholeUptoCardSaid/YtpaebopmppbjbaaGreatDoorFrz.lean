/- The engine: a row that is never written again is laid among what only is read. No program in sight. -/
import Derived.Test.YtpaebopmppbjbaaGreatDoorEn1M
set_option linter.unusedVariables false
set_option linter.unusedSimpArgs false
namespace Go.Eng
open Go Go.RowKit Go.Le
/-- a row, frozen: the memory that is never written grows by it -/
theorem own_row {wb w : World} {P : Hp} {e : TypeId} {s n cap : Nat} {a : Option Addr} {vs : List Value} {A : HP} (hone : ∀ v ∈ vs, v.oneCell' = true) (h : Mem wb w (Le.row e s a n cap vs * (own P * A))) :
    ∃ P', Hp.le P P' ∧ Mem wb w (own P' * A) ∧ Rd wb P' a n cap s vs := by
  cases a with
  | none =>
    obtain ⟨rfl, rfl, rfl, hm⟩ := Mem.row_none.1 h
    exact ⟨P, Hp.le_refl P, hm, ⟨by simp, Nat.le_refl _, by omega, fun _ => rfl, fun _ h => (by cases h), hone, fun _ h => (by cases h)⟩⟩
  | some p =>
    obtain ⟨b, o, sp⟩ := p
    obtain ⟨rest, rfl, rfl, l1, l2, l3, l4, hm⟩ := Mem.row_some.1 h
    obtain ⟨hb, h0, ⟨x, y, h1, rfl, hx, z, t, h2, rfl, hz, ht⟩, hk⟩ := hm
    have hx' : x = fun k => if k = b then some (e, vs ++ rest) else none := hx
    have hz' : z = P := hz
    subst hz'
    have hxb : x b = some (e, vs ++ rest) := by rw [hx']; simp
    refine ⟨x.join z, ?_, ⟨hb, (x.join z).join t, ⟨x.join z, t, ?_, rfl, rfl, ht⟩, ?_⟩, ?_⟩
    · intro k v hv
      have := h1 k
      unfold Hp.join at this ⊢
      cases hxk : x k with
      | none => exact hv
      | some u =>
        rw [hxk, hv] at this
        simp at this
    · intro k
      have a1 := h1 k
      have a2 := h2 k
      unfold Hp.join at a1 ⊢
      cases hxk : x k with
      | none => exact a2
      | some u =>
        rw [hxk] at a1
        cases hzk : z k with
        | none => rw [hzk] at a1; right; simpa using a1
        | some u' => rw [hzk] at a1; simp at a1
    · intro k e' cs hc
      rw [Hp.join_assoc] at hc
      exact hk k e' cs hc
    · refine ⟨l1, l2, l3, fun h => (by cases h), fun p hp _ => by cases hp; rfl, hone, fun p hp => ?_⟩
      cases hp
      refine .inr ⟨e, vs ++ rest, ?_, fun i v hv => ?_⟩
      · show x.join z b = _
        unfold Hp.join
        rw [hxb]
      · show (vs ++ rest)[0 + i]? = some v
        rw [Nat.zero_add, List.getElem?_append_left (List.getElem?_eq_some_iff.1 hv).1]
        exact hv
theorem Con.mono {Pg : Program} {F : List Nat} {f : FuncId} {xs : List SV} {P : Hp} {pre : List Ck} {post post' : SV → Hp → List Ck → Prop} (h : Con Pg F f xs P pre post) (k : ∀ x P' H', post x P' H' → post' x P' H') : Con Pg F f xs P pre post' :=
  ⟨h.1, fun ρ wb w R hM ho => (h.2 ρ wb w R hM ho).mono fun e w' ⟨ρ', x, P', H', h1, h2, h3, h4, h5, h6⟩ => ⟨ρ', x, P', H', h1, h2, h3, h4, h5, k _ _ _ h6⟩⟩
/-- what is handed in may be told in other words -/
theorem Con.args {Pg : Program} {F : List Nat} {f : FuncId} {xs ys : List SV} {P : Hp} {pre : List Ck} {post : SV → Hp → List Ck → Prop} (h : Con Pg F f xs P pre post) (h1 : ∀ ρ, denL ρ ys = denL ρ xs) (h2 : ∀ ρ wb, okL ρ wb P ys → okL ρ wb P xs) : Con Pg F f ys P pre post :=
  ⟨h.1, fun ρ wb w R hM ho => by rw [h1]; exact h.2 ρ wb w R hM (h2 ρ wb ho)⟩
/-- what nobody asks for any more may be left out of a contract -/
theorem Con.sub {Pg : Program} {F : List Nat} {f : FuncId} {xs : List SV} {P : Hp} {pre : List Ck} {post : SV → Hp → List Ck → Prop} (h : Con Pg F f xs P pre fun x P' H' => ∃ l, subH l H' (post x P' l)) : Con Pg F f xs P pre post := by
  refine ⟨h.1, fun ρ wb w R hM ho => (h.2 ρ wb w R hM ho).mono ?_⟩
  rintro e w' ⟨ρ', x, P', H', h1, h2, h3, hM', h5, l, h6⟩
  obtain ⟨rest, q1, q2, q3⟩ := subH_sound (ρ := ρ') (wb := wb) (P := P') h6
  exact ⟨ρ', x, P', l, h1, h2, h3, hM'.drop q1 q2, h5, q3⟩
/-- a function that hands back a row of bytes that nobody writes again: its answer is read only -/
theorem Con.freeze {Pg : Program} {F : List Nat} {f : FuncId} {xs : List SV} {P : Hp} {pre : List Ck} {post : SV → Hp → List Ck → Prop} (h : Con Pg F f xs P pre post) (q : List UInt8 → Hp → List Ck → Prop)
    (hp : ∀ x P' H', post x P' H' → ∃ n e cap l r, x = .sl n 1 0 l.length cap ∧ H' = .row n e cap (bytes l) :: r ∧ q l P' r) :
    Con Pg F f xs P pre fun x P'' H'' => ∃ a cap l P', x = .bs a cap l ∧ Hp.le P' P'' ∧ q l P' H'' := by
  refine ⟨h.1, fun ρ wb w R hM ho => (h.2 ρ wb w R hM ho).mono ?_⟩
  rintro e w' ⟨ρ', x, P', H', h1, rfl, h3, hM', h5, h6⟩
  obtain ⟨n, e, cap, l, r, rfl, rfl, h7⟩ := hp _ _ _ h6
  have hm : Mem wb w' (Le.row e 1 (ρ' n) l.length cap (Cont.vals (bytes l)) * (own P' * (star ρ' r * R))) := hM'.mem.eq (by simp only [star]; show own P' * (Le.row e 1 (ρ' n) l.length cap _ * star ρ' r * R) = _; ac_rfl)
  have hok := hM'.ok
  rw [show Cont.vals (bytes l) = byts l from flatMap_single l] at hm
  obtain ⟨P'', p1, p2, p3⟩ := own_row (fun v hv => by obtain ⟨y, -, rfl⟩ := List.mem_map.1 hv; rfl) hm
  refine ⟨ρ', .bs (ρ' n) cap l, P'', r, h1, ?_, by simp only [SV.ok]; exact p3, ⟨p2, okC_mono p1 r hok.2⟩, fun k v hv => p1 k v (h5 k v hv), ρ' n, cap, l, P', rfl, p1, h7⟩
  simp only [SV.den]
  congr 2
  cases ρ' n <;> simp [Addr.add]
end Go.Eng
