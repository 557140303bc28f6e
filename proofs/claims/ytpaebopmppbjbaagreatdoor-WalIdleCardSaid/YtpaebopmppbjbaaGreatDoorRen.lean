/- The engine: names given anew: in a contract's answer, and at a call. No program in sight. -/
import Derived.Test.YtpaebopmppbjbaaGreatDoorEn17
import Derived.Test.YtpaebopmppbjbaaGreatDoorFrz
set_option linter.unusedVariables false
set_option linter.unusedSimpArgs false
namespace Go.Eng
open Go Go.RowKit Go.Le
section
variable {Pg : Program} {P : Hp}
/-- what stays is named as it was -/
def stays (F : List Nat) : Ren → Bool
  | [] => true
  | (a, b) :: r => match hasN b F, Nat.beq a b with
    | true, false => false
    | _, _ => stays F r
theorem stays_sound {F : List Nat} : ∀ {l : Ren}, stays F l = true → ∀ {m n}, hasN m F = true → findN (swap l) m = some n → n = m
  | [], _, m, n, _, h => by cases h
  | (a, b) :: r, h, m, n, hm, hn => by
    simp only [swap, findN] at hn
    simp only [stays] at h
    split at hn
    · rename_i hb
      have e1 : b = m := Nat.eq_of_beq_eq_true hb
      have e2 : a = n := Option.some.inj hn
      rw [← e1] at hm ⊢
      rw [← e2]
      rw [hm] at h
      cases hq : Nat.beq a b with
      | true => exact Nat.eq_of_beq_eq_true hq
      | false => rw [hq] at h; cases h
    · split at h
      · cases h
      · exact stays_sound h hm hn
theorem Con.ren {F : List Nat} {f : FuncId} {xs : List SV} {pre : List Ck} {post : SV → Hp → List Ck → Prop}
    (h : Con Pg F f xs P pre fun x P' H' => ∃ τ : Ren, freeB [] [] (seconds τ) = true ∧ stays F τ = true ∧ renK τ x fun x2 => renCK τ H' fun H2 => post x2 P' H2) : Con Pg F f xs P pre post := by
  refine ⟨h.1, fun ρ wb w R hM ho => (h.2 ρ wb w R hM ho).mono ?_⟩
  rintro e w' ⟨ρ', x, P', H', h1, rfl, h3, hM', h5, τ, hf, hs, h6⟩
  replace h6 := ren_sound h6
  obtain ⟨x2, h6, x1, x3, x4⟩ := h6
  replace h6 := renC_sound h6
  obtain ⟨H2, h6, q1, q3, q4⟩ := h6
  let ρ2 : Places := fun m => match findN (swap τ) m with | some n => ρ' n | none => ρ' m
  have hc : ∀ n, Dom τ n → comp τ ρ2 n = ρ' n := by
    rintro n ⟨m, hm⟩
    unfold comp
    rw [hm]
    show (match findN (swap τ) m with | some n => ρ' n | none => ρ' m) = _
    rw [swap_find hf hm]
  have hxa := SV.den_agree (ρ := ρ') (ρ' := comp τ ρ2) x fun m hm => hc m (x4 m hm)
  have hxo := SV.ok_agree (ρ := ρ') (ρ' := comp τ ρ2) (wb := wb) (P := P') x (fun m hm => hc m (x4 m hm)) h3
  have hsa := star_agree (ρ := ρ') (ρ' := comp τ ρ2) (wb := wb) (P := P') H' fun m hm => hc m (q4 m hm)
  refine ⟨ρ2, x2, P', H2, fun n hn => ?_, by rw [x1, hxa], (x3 ρ2 wb P').2 hxo, ⟨?_, (q3 ρ2 wb P').2 (hsa.2 hM'.ok)⟩, h5, h6⟩
  · show (match findN (swap τ) n with | some n => ρ' n | none => ρ' n) = _
    cases hq : findN (swap τ) n with
    | none => exact h1 n hn
    | some m => obtain rfl := stays_sound hs hn hq; exact h1 _ hn
  · rw [q1, hsa.1]
    exact hM'.mem
end
end Go.Eng
