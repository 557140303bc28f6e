/- The engine: slices that are nothing, told as rows without elements; memory that is lent to be read. No program in sight. -/
import Derived.Test.YtpdppacafkdgdaaRen
import Derived.Test.YtpdppacafkdgdaaEv
set_option linter.unusedVariables false
set_option linter.unusedSimpArgs false
namespace Go.Eng
open Go Go.RowKit Go.Le
section
variable {Pg : Program} {P : Hp}
/-- a cell of a block that is nothing, told as a row without elements -/
def unnilK (n i m : Nat) (e : TypeId) (c : Cont) (H : List Ck) (K : List Ck → Prop) : Prop :=
  match hasC m H with
  | true => False
  | false => findB n [] H fun pre t cs post => nthK cs i fun
    | .raw (.slice none 0 0) => setK cs i [.sl m c.s 0 0 0] fun cs' => zipK pre (.blk n t cs' :: .row m e 0 c :: post) K
    | _ => False
theorem wr_den {ρ : Places} : ∀ (cs : List SV) (i : Nat) (x y : SV), cs[i]? = some x → y.den ρ = x.den ρ → denL ρ (wr cs i [y]) = denL ρ cs
  | c :: r, 0, x, y, h, e => by simp at h; subst h; simp [wr, denL, e]
  | c :: r, i + 1, x, y, h, e => by
    simp only [wr, denL]
    rw [wr_den r i x y (by simpa using h) e]
theorem unnil_sound {n i m : Nat} {e : TypeId} {c : Cont} {H : List Ck} {K : List Ck → Prop} (hc : c.l = []) (h : unnilK n i m e c H K) :
    ∃ H', K H' ∧ hasC m H = false ∧ ∀ ρ wb w R P, Models ρ wb w R P H → Models (upd ρ m none) wb w R P H' := by
  unfold unnilK at h
  split at h
  · exact h.elim
  · rename_i hm
    replace h := findB_sound h
    obtain ⟨H1, t, cs, H2, rfl, h⟩ := h
    replace h := nth_sound h
    obtain ⟨x, hx, h⟩ := h
    split at h
    · replace h := setK_sound h
      obtain ⟨-, h⟩ := h
      have h := zip_sound h
      rw [List.append_nil, List.reverse_reverse] at h
      refine ⟨_, h, hm, fun ρ wb w R P hM => ?_⟩
      have hag : ∀ k, k ≠ m → upd ρ m none k = ρ k := fun k hk => upd_ne _ hk
      have hs := star_agree1 (wb := wb) (P := P) hm hag
      have hM' : Models (upd ρ m none) wb w R P (H1 ++ .blk n t cs :: H2) := ⟨by rw [hs.1]; exact hM.mem, hs.2 hM.ok⟩
      obtain ⟨q1, q2, q3⟩ := Models.mid.1 hM'
      have hxd : (SV.sl m c.s 0 0 0).den (upd ρ m none) = (SV.raw (.slice none 0 0)).den (upd ρ m none) := by simp [SV.den, upd_self]
      have hd := wr_den (ρ := upd ρ m none) cs i _ (.sl m c.s 0 0 0) hx hxd
      have hr : Ck.den (upd ρ m none) (.row m e 0 c) = emp := by
        simp only [Ck.den, upd_self]
        have : c.vals = [] := by unfold Cont.vals; rw [hc]; rfl
        rw [this, hc]; exact row_nil _ _
      refine Models.mid.2 ⟨?_, ⟨?_, ?_⟩, ?_⟩
      · have e1 : star (upd ρ m none) (H1 ++ .row m e 0 c :: H2) = star (upd ρ m none) (H1 ++ H2) := by rw [star_mid, hr, emp_sep]
        rw [e1]
        simp only [Ck.den] at q1 ⊢
        rw [hd]; exact q1
      · refine (okL_iff _).2 fun z hz => ?_
        rcases mem_wr hz with hz | hz
        · exact (okL_iff _).1 q2.1 z hz
        · simp only [List.mem_singleton] at hz
          subst hz
          simp only [SV.ok]
          exact .inr ⟨upd_self _ _, trivial, trivial⟩
      · rw [hd]; exact q2.2
      · exact okC_mid.2 ⟨fun x hx => by rw [hc] at hx; simp at hx, q3⟩
    · exact h.elim
/-- ahead of a call: a cell that is nothing becomes a row -/
theorem call_unnil {f : FuncId} {args : List SV} {H : List Ck} {d : Nat} {K : Kont} (n i m : Nat) (e : TypeId) (c : Cont) (hc : c.l = [])
    (h : unnilK n i m e c H fun H' => hasL m args = false ∧ CallVC Pg f args P H' d fun x ns P' H'' => K x (m :: ns) P' H'') : CallVC Pg f args P H d K := by
  obtain ⟨H', ⟨hma, he, h⟩, hm, hM⟩ := unnil_sound hc h
  refine ⟨he, fun ρ wb w R hMo ha => ?_⟩
  have hag : ∀ k, k ≠ m → upd ρ m none k = ρ k := fun k hk => upd_ne _ hk
  have hne : ∀ k, hasL k args = true → upd ρ m none k = ρ k := fun k hk => hag k (by rintro rfl; rw [hma] at hk; cases hk)
  have := h (upd ρ m none) wb w R (hM _ _ _ _ _ hMo) (okL_agree args hne ha)
  rw [denL_agree args hne] at this
  refine this.mono ?_
  rintro e w' ⟨ρ', x, ns, P', H'', h1, h2, h3, h4, h5, h6⟩
  refine ⟨ρ', x, m :: ns, P', H'', fun k hk => ?_, h2, h3, h4, h5, h6⟩
  have hkm : k ≠ m := by rintro rfl; simp [hasN, beq_self] at hk
  have hk2 : hasN k ns = false := by
    simp only [hasN] at hk
    split at hk
    · cases hk
    · exact hk
  rw [h1 k hk2, hag k hkm]
/-- a contract that leaves a cell that is nothing leaves a row without elements -/
theorem Con.unnil {F : List Nat} {f : FuncId} {xs : List SV} {pre : List Ck} {post : SV → Hp → List Ck → Prop} (n i m : Nat) (e : TypeId) (c : Cont) (hc : c.l = []) (hF : hasN m F = false)
    (h : Con Pg F f xs P pre fun x P' H' => x.has m = false ∧ unnilK n i m e c H' fun H2 => post x P' H2) : Con Pg F f xs P pre post := by
  refine ⟨h.1, fun ρ wb w R hM ho => (h.2 ρ wb w R hM ho).mono ?_⟩
  rintro e w' ⟨ρ', x, P', H', h1, rfl, h3, hM', h5, hx, h6⟩
  obtain ⟨H2, h6, hm, hMM⟩ := unnil_sound hc h6
  have hne : ∀ k, x.has k = true → upd ρ' m none k = ρ' k := fun k hk => upd_ne _ (by rintro rfl; rw [hx] at hk; cases hk)
  refine ⟨upd ρ' m none, x, P', H2, fun k hk => ?_, by rw [SV.den_agree x hne], SV.ok_agree x hne h3, hMM _ _ _ _ _ hM', h5, h6⟩
  rw [upd_ne _ (by rintro rfl; rw [hF] at hk; cases hk)]
  exact h1 k hk
/-- a cell that is nothing, told as what is read only -/
def unnilRK (n i : Nat) (c : Cont) (H : List Ck) (K : List Ck → Prop) : Prop :=
  findB n [] H fun pre t cs post => nthK cs i fun
    | .raw (.slice none 0 0) => setK cs i [.rs none 0 c] fun cs' => zipK pre (.blk n t cs' :: post) K
    | _ => False
theorem Con.unnilR {F : List Nat} {f : FuncId} {xs : List SV} {pre : List Ck} {post : SV → Hp → List Ck → Prop} (n i : Nat) (c : Cont) (hc : c.l = [])
    (h : Con Pg F f xs P pre fun x P' H' => unnilRK n i c H' fun H2 => post x P' H2) : Con Pg F f xs P pre post := by
  refine ⟨h.1, fun ρ wb w R hM ho => (h.2 ρ wb w R hM ho).mono ?_⟩
  rintro e w' ⟨ρ', x, P', H', h1, rfl, h3, hM', h5, h6⟩
  replace h6 := findB_sound h6
  obtain ⟨H1, t, cs, H2, rfl, h6⟩ := h6
  replace h6 := nth_sound h6
  obtain ⟨y, hy, h6⟩ := h6
  split at h6
  · replace h6 := setK_sound h6
    obtain ⟨-, h6⟩ := h6
    have h6 := zip_sound h6
    rw [List.append_nil, List.reverse_reverse] at h6
    obtain ⟨q1, q2, q3⟩ := Models.mid.1 hM'
    have hv : c.vals = [] := by unfold Cont.vals; rw [hc]; rfl
    have hd := wr_den (ρ := ρ') cs i _ (.rs none 0 c) hy (by simp [SV.den, hc])
    refine ⟨ρ', x, P', H1 ++ .blk n t (wr cs i [.rs none 0 c]) :: H2, h1, rfl, h3, Models.mid.2 ⟨?_, ⟨?_, ?_⟩, q3⟩, h5, h6⟩
    · simp only [Ck.den] at q1 ⊢
      rw [hd]; exact q1
    · refine (okL_iff _).2 fun z hz => ?_
      rcases mem_wr hz with hz | hz
      · exact (okL_iff _).1 q2.1 z hz
      · simp only [List.mem_singleton] at hz
        subst hz
        simp only [SV.ok]
        rw [hv, hc]
        exact ⟨⟨(Nat.zero_mul _).symm, Nat.le_refl _, by omega, (fun _ => rfl), (fun _ h => by cases h), (fun _ h => by cases h), (fun _ h => by cases h)⟩, fun u hu => by rw [hc] at hu; cases hu⟩
    · rw [hd]; exact q2.2
  · exact h6.elim
/-- a part that says nothing -/
theorem Con.unmark {F : List Nat} {f : FuncId} {xs : List SV} {pre : List Ck} {post : SV → Hp → List Ck → Prop} (X : Ck) (h1 : ∀ ρ, Ck.den ρ X = emp) (h2 : ∀ ρ wb P, Ck.ok ρ wb P X) (h : Con Pg F f xs P (X :: pre) post) : Con Pg F f xs P pre post :=
  ⟨h.1, fun ρ wb w R hM ho => h.2 ρ wb w R ⟨by simp only [star]; rw [h1, emp_sep]; exact hM.mem, ⟨h2 ρ wb P, hM.ok⟩⟩ ho⟩
/-- the mark of a row: what is appended to it shares it -/
abbrev shm (n : Nat) : Ck := .ab 78 [n] ⟨fun _ => emp, fun _ => True⟩
theorem Con.share {F : List Nat} {f : FuncId} {xs : List SV} {pre : List Ck} {post : SV → Hp → List Ck → Prop} (n : Nat) (h : Con Pg F f xs P (shm n :: pre) post) : Con Pg F f xs P pre post :=
  Con.unmark (shm n) (fun _ => rfl) (fun _ _ _ => trivial) h
/-- an answer may be told in other words -/
theorem Con.res {F : List Nat} {f : FuncId} {xs : List SV} {pre : List Ck} {post post' : SV → Hp → List Ck → Prop} (h : Con Pg F f xs P pre post)
    (k : ∀ x P' H', post x P' H' → ∃ x', (∀ ρ, x'.den ρ = x.den ρ) ∧ (∀ ρ wb P, x.ok ρ wb P → x'.ok ρ wb P) ∧ post' x' P' H') : Con Pg F f xs P pre post' := by
  refine ⟨h.1, fun ρ wb w R hM ho => (h.2 ρ wb w R hM ho).mono ?_⟩
  rintro e w' ⟨ρ', x, P', H', h1, rfl, h3, hM', h5, h6⟩
  obtain ⟨x', e1, e2, h7⟩ := k _ _ _ h6
  exact ⟨ρ', x', P', H', h1, by rw [e1], e2 _ _ _ h3, hM', h5, h7⟩
theorem rd_nil (wb : World) (P : Hp) (s : Nat) : Rd wb P none 0 0 s [] := ⟨(Nat.zero_mul s).symm, Nat.le_refl _, by omega, (fun _ => rfl), (fun _ h => by cases h), (fun _ h => by cases h), (fun _ h => by cases h)⟩
theorem Hp.le_left (A B : Hp) : Hp.le A (A.join B) := fun k x h => by unfold Hp.join; rw [h]
theorem Hp.le_right {A B : Hp} (hd : Hp.apart A B) : Hp.le B (A.join B) := by rw [Hp.join_comm hd]; exact Hp.le_left _ _
/-- a part of the memory, lent: it counts among what is read only -/
theorem lend_mem {wb w : World} {A B : HP} : Mem wb w (own P * (A * B)) ↔ ∃ Z, A Z ∧ Hp.apart P Z ∧ Mem wb w (own (P.join Z) * B) := by
  constructor
  · rintro ⟨hb, h, ⟨a, b, h1, rfl, ha, c, d, h2, rfl, hc, hd⟩, hk⟩
    have ha : a = P := ha
    subst ha
    refine ⟨c, hc, fun k => (h1 k).imp id fun h => (Hp.join_none.1 h).1, hb, _, ⟨a.join c, d, fun k => ?_, ?_, rfl, hd⟩, hk⟩
    · have x := h1 k
      have y := h2 k
      rw [Hp.join_none] at x ⊢
      rcases y with y | y
      · rcases x with x | x
        · exact .inl ⟨x, y⟩
        · exact .inr x.2
      · exact .inr y
    · rw [Hp.join_assoc]
  · rintro ⟨Z, hZ, hap, hb, h, ⟨a, d, h1, rfl, ha, hd⟩, hk⟩
    have ha : a = P.join Z := ha
    subst ha
    refine ⟨hb, _, ⟨P, Z.join d, fun k => ?_, by rw [Hp.join_assoc], rfl, Z, d, fun k => ?_, rfl, hZ, hd⟩, hk⟩
    · have x := h1 k
      rw [Hp.join_none] at x ⊢
      rcases x with x | x
      · exact .inl x.1
      · rcases hap k with y | y
        · exact .inl y
        · exact .inr ⟨y, x⟩
    · have x := h1 k
      rw [Hp.join_none] at x
      exact x.imp (fun x => x.2) id
theorem rd_row {wb : World} {e : TypeId} {s n cap : Nat} {a : Option Addr} {vs : List Value} {Z : Hp} (h : Le.row e s a n cap vs Z) (hone : ∀ v ∈ vs, v.oneCell' = true) : Rd wb Z a n cap s vs := by
  obtain ⟨l1, l2, l3, ⟨rfl, rfl, rfl⟩ | ⟨g, rest, rfl, l4, hp⟩⟩ := h
  · exact ⟨l1, l2, l3, (fun _ => rfl), (fun _ h => by cases h), hone, (fun _ h => by cases h)⟩
  · refine ⟨l1, l2, l3, (fun h => by cases h), (fun p hp _ => by cases hp; rfl), hone, fun p hp2 => ?_⟩
    cases hp2
    have hp : Z = fun k => if k = g then some (e, vs ++ rest) else none := hp
    refine .inr ⟨e, vs ++ rest, by rw [hp]; simp, fun i v hv => ?_⟩
    show (vs ++ rest)[0 + i]? = some v
    rw [Nat.zero_add, List.getElem?_append_left (List.getElem?_eq_some_iff.1 hv).1]
    exact hv
/-- MEMORY THAT IS LENT: a contract over what is read only serves for memory that is owned, and comes back as it was -/
theorem Con.lend {F : List Nat} {f : FuncId} {xs : List SV} {X : List Ck} {post : SV → Prop} (he : Enters Pg f) (hF : ∀ n, hasC n X = true → hasN n F = true)
    (h : ∀ ρ wb Z, Hp.apart P Z → star ρ X Z → okC ρ wb P X → okL ρ wb P xs → ∃ ys, denL ρ ys = denL ρ xs ∧ okL ρ wb (P.join Z) ys ∧ Con Pg F f ys (P.join Z) [] fun x P' H' => P' = P.join Z ∧ (∃ v, x = .raw v) ∧ post x) :
    Con Pg F f xs P X fun x P' H' => P' = P ∧ H' = X ∧ post x := by
  refine ⟨he, fun ρ wb w R hM ho => ?_⟩
  obtain ⟨Z, hZ, hap, hm⟩ := lend_mem.1 hM.mem
  obtain ⟨ys, h1, h2, h3⟩ := h ρ wb Z hap hZ hM.ok ho
  rw [← h1]
  refine (h3.2 ρ wb w R ⟨by simp only [star, emp_sep]; exact hm, trivial⟩ h2).mono ?_
  rintro e w' ⟨ρ', x, P', H', k1, rfl, k3, hM', k5, rfl, ⟨v, rfl⟩, k6⟩
  have hs := star_agree (ρ := ρ) (ρ' := ρ') (wb := wb) (P := P) X fun m hm => k1 m (hF m hm)
  have hm' : Mem wb w' (own (P.join Z) * R) := by
    have := hM'.mem
    exact (this.eq (show own (P.join Z) * (star ρ' H' * R) = own (P.join Z) * R * star ρ' H' by ac_rfl)).left
  refine ⟨ρ', .raw v, P, X, k1, rfl, by simp only [SV.ok], ⟨?_, hs.2 hM.ok⟩, Hp.le_refl P, rfl, rfl, k6⟩
  rw [hs.1]
  exact lend_mem.2 ⟨Z, hZ, hap, hm'⟩
end
end Go.Eng
