/- The engine: a row that is never written again is laid among what only is read. No program in sight. -/
import Derived.Test.YtpdppacafkdgdaaEn1M
set_option linter.unusedVariables false
set_option linter.unusedSimpArgs false
namespace Go.Eng
open Go Go.RowKit Go.Le
theorem Con.mono {Pg : Program} {F : List Nat} {f : FuncId} {xs : List SV} {P : Hp} {pre : List Ck} {post post' : SV → Hp → List Ck → Prop} (h : Con Pg F f xs P pre post) (k : ∀ x P' H', post x P' H' → post' x P' H') : Con Pg F f xs P pre post' :=
  ⟨h.1, fun ρ wb w R hM ho => (h.2 ρ wb w R hM ho).mono fun e w' ⟨ρ', x, P', H', h1, h2, h3, h4, h5, h6⟩ => ⟨ρ', x, P', H', h1, h2, h3, h4, h5, k _ _ _ h6⟩⟩
/-- what is handed in may be told in other words -/
theorem Con.args {Pg : Program} {F : List Nat} {f : FuncId} {xs ys : List SV} {P : Hp} {pre : List Ck} {post : SV → Hp → List Ck → Prop} (h : Con Pg F f xs P pre post) (h1 : ∀ ρ, denL ρ ys = denL ρ xs) (h2 : ∀ ρ wb, okL ρ wb P ys → okL ρ wb P xs) : Con Pg F f ys P pre post :=
  ⟨h.1, fun ρ wb w R hM ho => by rw [h1]; exact h.2 ρ wb w R hM (h2 ρ wb ho)⟩
/-- what nobody asks for any more may be left out of a contract -/
theorem Con.sub {Pg : Program} {F : List Nat} {f : FuncId} {xs : List SV} {P : Hp} {pre : List Ck} {post : SV → Hp → List Ck → Prop} (h : Con Pg F f xs P pre fun x P' H' => ∃ l, subH l H' (post x P' l)) : Con Pg F f xs P pre post := by
  refine ⟨h.1, fun ρ wb w R hM ho => (h.2 ρ wb w R hM ho).mono ?_⟩
  rintro e w' ⟨ρ', x, P', H', h1, h2, h3, hM', h5, l, h6⟩
  obtain ⟨rest, q1, q2, q3⟩ := subH_sound (ρ := ρ') (wb := wb) (P := P') h6
  exact ⟨ρ', x, P', l, h1, h2, h3, hM'.drop q1 q2, h5, q3⟩
/-- a function that hands back a row of bytes that nobody writes again: its answer is read only -/
theorem Con.freeze {Pg : Program} {F : List Nat} {f : FuncId} {xs : List SV} {P : Hp} {pre : List Ck} {post : SV → Hp → List Ck → Prop} (h : Con Pg F f xs P pre post) (q : List UInt8 → Hp → List Ck → Prop)
    (hp : ∀ x P' H', post x P' H' → ∃ n e cap l r, x = .sl n 1 0 l.length cap ∧ H' = .row n e cap (bytes l) :: r ∧ q l P' r) :
    Con Pg F f xs P pre fun x P'' H'' => ∃ a cap l P', x = .bs a cap l ∧ Hp.le P' P'' ∧ q l P' H'' := by
  refine ⟨h.1, fun ρ wb w R hM ho => (h.2 ρ wb w R hM ho).mono ?_⟩
  rintro e w' ⟨ρ', x, P', H', h1, rfl, h3, hM', h5, h6⟩
  obtain ⟨n, e, cap, l, r, rfl, rfl, h7⟩ := hp _ _ _ h6
  have hm : Mem wb w' (Le.row e 1 (ρ' n) l.length cap (Cont.vals (bytes l)) * (own P' * (star ρ' r * R))) := hM'.mem.eq (by simp only [star]; show own P' * (Le.row e 1 (ρ' n) l.length cap _ * star ρ' r * R) = _; ac_rfl)
  have hok := hM'.ok
  rw [show Cont.vals (bytes l) = byts l from flatMap_single l] at hm
  obtain ⟨P'', p1, p2, p3⟩ := own_row (fun v hv => by obtain ⟨y, -, rfl⟩ := List.mem_map.1 hv; rfl) hm
  refine ⟨ρ', .bs (ρ' n) cap l, P'', r, h1, ?_, by simp only [SV.ok]; exact p3, ⟨p2, okC_mono p1 r hok.2⟩, fun k v hv => p1 k v (h5 k v hv), ρ' n, cap, l, P', rfl, p1, h7⟩
  simp only [SV.den]
  congr 2
  cases ρ' n <;> simp [Addr.add]
end Go.Eng
