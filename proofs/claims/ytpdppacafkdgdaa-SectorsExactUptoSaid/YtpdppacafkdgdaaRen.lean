/- The engine: names given anew: in a contract's answer, and at a call. No program in sight. -/
import Derived.Test.YtpdppacafkdgdaaEn17
import Derived.Test.YtpdppacafkdgdaaFrz
set_option linter.unusedVariables false
set_option linter.unusedSimpArgs false
namespace Go.Eng
open Go Go.RowKit Go.Le
section
variable {Pg : Program} {P : Hp}
/-- what stays is named as it was -/
def stays (F : List Nat) : Ren → Bool
  | [] => true
  | (a, b) :: r => match hasN b F, Nat.beq a b with
    | true, false => false
    | _, _ => stays F r
theorem stays_sound {F : List Nat} : ∀ {l : Ren}, stays F l = true → ∀ {m n}, hasN m F = true → findN (swap l) m = some n → n = m
  | [], _, m, n, _, h => by cases h
  | (a, b) :: r, h, m, n, hm, hn => by
    simp only [swap, findN] at hn
    simp only [stays] at h
    split at hn
    · rename_i hb
      have e1 : b = m := Nat.eq_of_beq_eq_true hb
      have e2 : a = n := Option.some.inj hn
      rw [← e1] at hm ⊢
      rw [← e2]
      rw [hm] at h
      cases hq : Nat.beq a b with
      | true => exact Nat.eq_of_beq_eq_true hq
      | false => rw [hq] at h; cases h
    · split at h
      · cases h
      · exact stays_sound h hm hn
theorem Con.ren {F : List Nat} {f : FuncId} {xs : List SV} {pre : List Ck} {post : SV → Hp → List Ck → Prop}
    (h : Con Pg F f xs P pre fun x P' H' => ∃ τ : Ren, freeB [] [] (seconds τ) = true ∧ stays F τ = true ∧ renK τ x fun x2 => renCK τ H' fun H2 => post x2 P' H2) : Con Pg F f xs P pre post := by
  refine ⟨h.1, fun ρ wb w R hM ho => (h.2 ρ wb w R hM ho).mono ?_⟩
  rintro e w' ⟨ρ', x, P', H', h1, rfl, h3, hM', h5, τ, hf, hs, h6⟩
  replace h6 := ren_sound h6
  obtain ⟨x2, h6, x1, x3, x4⟩ := h6
  replace h6 := renC_sound h6
  obtain ⟨H2, h6, q1, q3, q4⟩ := h6
  let ρ2 : Places := fun m => match findN (swap τ) m with | some n => ρ' n | none => ρ' m
  have hc : ∀ n, Dom τ n → comp τ ρ2 n = ρ' n := by
    rintro n ⟨m, hm⟩
    unfold comp
    rw [hm]
    show (match findN (swap τ) m with | some n => ρ' n | none => ρ' m) = _
    rw [swap_find hf hm]
  have hxa := SV.den_agree (ρ := ρ') (ρ' := comp τ ρ2) x fun m hm => hc m (x4 m hm)
  have hxo := SV.ok_agree (ρ := ρ') (ρ' := comp τ ρ2) (wb := wb) (P := P') x (fun m hm => hc m (x4 m hm)) h3
  have hsa := star_agree (ρ := ρ') (ρ' := comp τ ρ2) (wb := wb) (P := P') H' fun m hm => hc m (q4 m hm)
  refine ⟨ρ2, x2, P', H2, fun n hn => ?_, by rw [x1, hxa], (x3 ρ2 wb P').2 hxo, ⟨?_, (q3 ρ2 wb P').2 (hsa.2 hM'.ok)⟩, h5, h6⟩
  · show (match findN (swap τ) n with | some n => ρ' n | none => ρ' n) = _
    cases hq : findN (swap τ) n with
    | none => exact h1 n hn
    | some m => obtain rfl := stays_sound hs hn hq; exact h1 _ hn
  · rw [q1, hsa.1]
    exact hM'.mem
/-- a call, by the callee's contract, the new names told -/
def callR (F : List Nat) (τN : Ren) (as : List SV) (pre : List Ck) (args : List SV) (H : List Ck) (K : List SV → List Ck → List Ck → Ren → List Ck → List Nat → Prop) : Prop :=
  mtL as args [] fun τ => mtC pre H τ fun τ taken rest => renLK τ as fun as' => renCK τ pre fun pre' => keepK F τ fun τF => match freeB rest τF (seconds τN) with
    | true => appRK τN τF fun τ2 => K as' pre' taken τ2 rest (seconds τN)
    | false => False
theorem call_conR {F : List Nat} (τN : Ren) {f : FuncId} {as : List SV} {pre : List Ck} {post : SV → Hp → List Ck → Prop} (hc : Con Pg F f as P pre post) {args : List SV} {H : List Ck} {d : Nat} {K : Kont}
    (h : callR F τN as pre args H fun as' pre' taken τ2 rest cs => as' = args ∧ pre' = taken ∧ ∀ x P' H', Hp.le P P' → post x P' H' → renK τ2 x fun x' => renCK τ2 H' fun H'' => appCK H'' rest fun H3 => K x' cs P' H3) : CallVC Pg f args P H d K := by
  refine ⟨hc.1, fun ρ wb w R hM ha => ?_⟩
  replace h := mtL_sound h
  obtain ⟨τ0, h⟩ := h
  replace h := mtC_sound h
  obtain ⟨τ, taken, rest, h, hst, hoc⟩ := h
  replace h := renL_sound h
  obtain ⟨as', h, ha1, ha2, -⟩ := h
  replace h := renC_sound h
  obtain ⟨pre', h, hp1, hp2, -⟩ := h
  replace h := keep_sound h
  obtain ⟨τF, h, hF⟩ := h
  split at h
  · rename_i hfree
    replace h := appR_sound h
    obtain ⟨rfl, rfl, h⟩ := h
    have hok := hoc ρ wb P hM.ok
    have hmem : Mem wb w (own P * (star (comp τ ρ) pre * (star ρ rest * R))) := by
      have := hM.mem
      rw [hst ρ, hp1 ρ] at this
      exact this.eq (by ac_rfl)
    have hcall := hc.2 (comp τ ρ) wb w (star ρ rest * R) ⟨hmem, (hp2 ρ wb P).1 hok.1⟩ ((ha2 ρ wb P).1 ha)
    rw [← ha1 ρ] at hcall
    refine hcall.mono ?_
    rintro e w' ⟨ρ', x, P', H', hF', rfl, hx, hM', hle, hpost⟩
    have h := h x P' H' hle hpost
    replace h := ren_sound h
    obtain ⟨x', h, hx1, hx2, hx3⟩ := h
    replace h := renC_sound h
    obtain ⟨H'', h, hh1, hh2, hh3⟩ := h
    have h := appC_sound h
    have hfr := free_sound hfree
    let ρc : Places := fun m => match findN (swap τN) m with | some n => ρ' n | none => ρ m
    have hag : Ag ρ ρc (seconds τN) := fun m hm => by show (match findN (swap τN) m with | some n => ρ' n | none => ρ m) = _; rw [swap_none hm]
    have hcomp : ∀ n, Dom (τN ++ τF) n → ρ' n = comp (τN ++ τF) ρc n := by
      rintro n ⟨m, hm⟩
      rw [findN_append] at hm
      unfold comp
      rw [findN_append]
      cases hn : findN τN n with
      | some m' =>
        dsimp only
        show _ = (match findN (swap τN) m' with | some n => ρ' n | none => ρ m')
        rw [swap_find hfree hn]
      | none =>
        rw [hn] at hm
        dsimp only at hm ⊢
        rw [hm]
        dsimp only
        have h3 := hF n m hm
        have h4 : hasN m (seconds τN) = false := by
          cases hq : hasN m (seconds τN) with
          | false => rfl
          | true => have := (hfr m hq).2; rw [find_second hm] at this; cases this
        rw [hag m h4, hF' n h3.1]
        unfold comp
        rw [h3.2]
    have hxd : x'.den ρc = x.den ρ' := by rw [hx1]; exact (SV.den_agree x fun m hm => (hcomp m (hx3 m hm)).symm)
    have hxo : x'.ok ρc wb P' := (hx2 ρc wb P').2 (SV.ok_agree x (fun m hm => (hcomp m (hx3 m hm)).symm) hx)
    have hsa := star_agree (ρ := ρ') (ρ' := comp (τN ++ τF) ρc) (wb := wb) (P := P') H' fun m hm => (hcomp m (hh3 m hm)).symm
    have hsr := star_agree (ρ := ρ) (ρ' := ρc) (wb := wb) (P := P) rest fun m hm => hag m (by
      cases hq : hasN m (seconds τN) with
      | false => rfl
      | true => rw [(hfr m hq).1] at hm; cases hm)
    refine ⟨ρc, x', seconds τN, P', _, hag, by rw [hxd], hxo, ⟨?_, ?_⟩, hle, h⟩
    · rw [star_append, hh1, hsa.1, hsr.1]
      exact hM'.mem.eq (by ac_rfl)
    · exact okC_append.2 ⟨(hh2 ρc wb P').2 (hsa.2 hM'.ok), okC_mono hle _ (hsr.2 hok.2)⟩
  · exact h.elim
end
end Go.Eng
