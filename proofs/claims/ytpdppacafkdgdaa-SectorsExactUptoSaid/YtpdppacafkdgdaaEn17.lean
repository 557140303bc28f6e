/- The engine: a call, by the callee's contract: its names are turned into the caller's. No program in sight. -/
import Derived.Test.YtpdppacafkdgdaaEn1M
set_option linter.unusedVariables false
set_option linter.unusedSimpArgs false
namespace Go.Eng
open Go Go.RowKit Go.Le
abbrev Ren := List (Nat × Nat)
def findN : Ren → Nat → Option Nat
  | [], _ => none
  | (a, b) :: r, n => match Nat.beq a n with | true => some b | false => findN r n
def lookK : Ren → Nat → (Nat → Prop) → Prop
  | [], _, _ => False
  | (a, b) :: r, n, K => match Nat.beq a n with | true => K b | false => lookK r n K
def addK (n m : Nat) (τ : Ren) (K : Ren → Prop) : Prop := match findN τ n with
  | some _ => K τ
  | none => K ((n, m) :: τ)
mutual
def renK (τ : Ren) : SV → (SV → Prop) → Prop
  | .raw v, K => K (.raw v)
  | .ptr n k, K => lookK τ n fun m => K (.ptr m k)
  | .sl n s o len cap, K => lookK τ n fun m => K (.sl m s o len cap)
  | .el n s i j, K => lookK τ n fun m => K (.el m s i j)
  | .bs a cap l, K => K (.bs a cap l)
  | .bp a l i, K => K (.bp a l i)
  | .rs a cap c, K => K (.rs a cap c)
  | .rp a c i j, K => K (.rp a c i j)
  | .ifc t x, K => renK τ x fun y => K (.ifc t y)
  | .fn f a b, K => renLK τ a fun a => renLK τ b fun b => K (.fn f a b)
  | .agg l, K => renLK τ l fun l => K (.agg l)
  | .tup l, K => renLK τ l fun l => K (.tup l)
  | .dead, _ => False
def renLK (τ : Ren) : List SV → (List SV → Prop) → Prop
  | [], K => K []
  | x :: r, K => renK τ x fun y => renLK τ r fun l => K (y :: l)
end
def renNK (τ : Ren) : List Nat → (List Nat → Prop) → Prop
  | [], K => K []
  | n :: r, K => lookK τ n fun m => renNK τ r fun l => K (m :: l)
def renCK (τ : Ren) : List Ck → (List Ck → Prop) → Prop
  | [], K => K []
  | .blk n e cs :: r, K => lookK τ n fun m => renLK τ cs fun cs' => renCK τ r fun l => K (.blk m e cs' :: l)
  | .row n e cap c :: r, K => lookK τ n fun m => renCK τ r fun l => K (.row m e cap c :: l)
  | .ab key ns A :: r, K => renNK τ ns fun ns' => renCK τ r fun l => K (.ab key ns' A :: l)
mutual
def mtV : SV → SV → Ren → (Ren → Prop) → Prop
  | .ptr n _, y, τ, K => match y with | .ptr m _ => addK n m τ K | _ => False
  | .sl n _ _ _ _, y, τ, K => match y with | .sl m _ _ _ _ => addK n m τ K | _ => False
  | .el n _ _ _, y, τ, K => match y with | .el m _ _ _ => addK n m τ K | _ => False
  | .ifc _ x, y, τ, K => match y with | .ifc _ y => mtV x y τ K | _ => False
  | .fn _ a b, y, τ, K => match y with | .fn _ a' b' => mtL a a' τ fun τ => mtL b b' τ K | _ => False
  | .agg l, y, τ, K => match y with | .agg l' => mtL l l' τ K | _ => K τ
  | .tup l, y, τ, K => match y with | .tup l' => mtL l l' τ K | _ => K τ
  | _, _, τ, K => K τ
def mtL : List SV → List SV → Ren → (Ren → Prop) → Prop
  | [], _, τ, K => K τ
  | x :: r, l, τ, K => match l with | y :: l => mtV x y τ fun τ => mtL r l τ K | [] => False
end
def mtN : List Nat → List Nat → Ren → (Ren → Prop) → Prop
  | n :: r, m :: l, τ, K => addK n m τ fun τ => mtN r l τ K
  | _, _, τ, K => K τ
def mtC : List Ck → List Ck → Ren → (Ren → List Ck → List Ck → Prop) → Prop
  | [], H, τ, K => K τ [] H
  | .blk n _ cs :: r, H, τ, K => lookK τ n fun m => findB m [] H fun pre e cs' post => mtL cs cs' τ fun τ => zipK pre post fun H' => mtC r H' τ fun τ l rest => K τ (.blk m e cs' :: l) rest
  | .row n _ _ _ :: r, H, τ, K => lookK τ n fun m => findR m [] H fun pre e cap c post => zipK pre post fun H' => mtC r H' τ fun τ l rest => K τ (.row m e cap c :: l) rest
  | .ab key ns _ :: r, H, τ, K => match ns with
    | n :: _ => lookK τ n fun m => findA1 key m [] H fun pre ns' A post => mtN ns ns' τ fun τ => zipK pre post fun H' => mtC r H' τ fun τ l rest => K τ (.ab key ns' A :: l) rest
    | [] => findA key [] H fun pre ns' A post => zipK pre post fun H' => mtC r H' τ fun τ l rest => K τ (.ab key ns' A :: l) rest
/-- the names that stay -/
def keepK (F : List Nat) : Ren → (Ren → Prop) → Prop
  | [], K => K []
  | (n, m) :: r, K => keepK F r fun l => match hasN n F with | true => K ((n, m) :: l) | false => K l
def newsK : List Nat → Nat → (Ren → Prop) → Prop
  | [], _, K => K []
  | n :: r, d, K => newsK r (d + 100000) fun l => K ((n, d) :: l)
def seconds : Ren → List Nat
  | [] => []
  | (_, m) :: r => m :: seconds r
/-- are these names free there? -/
def freeB (rest : List Ck) (τ : Ren) : List Nat → Bool
  | [] => true
  | c :: r => match hasC c rest, hasN c (seconds τ), hasN c r with
    | false, false, false => freeB rest τ r
    | _, _, _ => false
def appRK : Ren → Ren → (Ren → Prop) → Prop
  | [], l, K => K l
  | x :: r, l, K => appRK r l fun l => K (x :: l)
def appCK : List Ck → List Ck → (List Ck → Prop) → Prop
  | [], l, K => K l
  | x :: r, l, K => appCK r l fun l => K (x :: l)
def callK (F N : List Nat) (as : List SV) (pre : List Ck) (args : List SV) (H : List Ck) (d : Nat) (K : List SV → List Ck → List Ck → Ren → List Ck → List Nat → Prop) : Prop :=
  mtL as args [] fun τ => mtC pre H τ fun τ taken rest => renLK τ as fun as' => renCK τ pre fun pre' => keepK F τ fun τF => newsK N d fun τN => match freeB rest τF (seconds τN) with
    | true => appRK τN τF fun τ2 => K as' pre' taken τ2 rest (seconds τN)
    | false => False

section
variable {Pg : Program} {ρ ρ' : Places} {wb w : World} {R : HP} {P P' : Hp} {H : List Ck} {τ : Ren}
def comp (τ : Ren) (ρ : Places) : Places := fun n => match findN τ n with | some m => ρ m | none => none
theorem look_sound : ∀ {τ : Ren} {n : Nat} {K : Nat → Prop}, lookK τ n K → ∃ m, findN τ n = some m ∧ K m
  | (a, b) :: r, n, K, h => by
    simp only [lookK] at h
    simp only [findN]
    split at h
    · rename_i hb; exact ⟨b, rfl, h⟩
    · exact look_sound h
def Dom (τ : Ren) (n : Nat) : Prop := ∃ m, findN τ n = some m
theorem dom_beq {n m : Nat} (h : Nat.beq n m = true) (hd : Dom τ n) : Dom τ m := Nat.eq_of_beq_eq_true h ▸ hd
mutual
theorem ren_sound : ∀ {x : SV} {K : SV → Prop}, renK τ x K → ∃ y, K y ∧ (∀ ρ, y.den ρ = x.den (comp τ ρ)) ∧ (∀ ρ wb P, y.ok ρ wb P ↔ x.ok (comp τ ρ) wb P) ∧ ∀ m, x.has m = true → Dom τ m
  | .raw v, K, h => ⟨_, h, fun _ => rfl, fun _ _ _ => by simp only [SV.ok], fun m hm => by simp [SV.has] at hm⟩
  | .ptr n k, K, h => by
    obtain ⟨m, hm, h⟩ := look_sound h
    exact ⟨_, h, fun ρ => by simp only [SV.den, comp, hm], fun ρ wb P => by simp only [SV.ok, comp, hm], fun k hk => dom_beq (by simpa only [SV.has] using hk) ⟨m, hm⟩⟩
  | .sl n s o len cap, K, h => by
    obtain ⟨m, hm, h⟩ := look_sound h
    exact ⟨_, h, fun ρ => by simp only [SV.den, comp, hm], fun ρ wb P => by simp only [SV.ok, comp, hm], fun k hk => dom_beq (by simpa only [SV.has] using hk) ⟨m, hm⟩⟩
  | .el n s i j, K, h => by
    obtain ⟨m, hm, h⟩ := look_sound h
    exact ⟨_, h, fun ρ => by simp only [SV.den, comp, hm], fun ρ wb P => by simp only [SV.ok, comp, hm], fun k hk => dom_beq (by simpa only [SV.has] using hk) ⟨m, hm⟩⟩
  | .bs a cap l, K, h => ⟨_, h, fun _ => rfl, fun _ _ _ => by simp only [SV.ok], fun m hm => by simp [SV.has] at hm⟩
  | .bp a l i, K, h => ⟨_, h, fun _ => rfl, fun _ _ _ => by simp only [SV.ok], fun m hm => by simp [SV.has] at hm⟩
  | .rs a cap c, K, h => ⟨_, h, fun _ => rfl, fun _ _ _ => by simp only [SV.ok], fun m hm => by simp [SV.has] at hm⟩
  | .rp a c i j, K, h => ⟨_, h, fun _ => rfl, fun _ _ _ => by simp only [SV.ok], fun m hm => by simp [SV.has] at hm⟩
  | .ifc t x, K, h => by
    obtain ⟨y, h1, h2, h3, h4⟩ := ren_sound (x := x) h
    exact ⟨_, h1, fun ρ => by simp only [SV.den, h2], fun ρ wb P => by simp only [SV.ok, h3], fun m hm => h4 m (by simpa only [SV.has] using hm)⟩
  | .fn f a b, K, h => by
    obtain ⟨a', h1, h2, h3, h4⟩ := renL_sound (l := a) h
    obtain ⟨b', h5, h6, h7, h8⟩ := renL_sound (l := b) h1
    refine ⟨_, h5, fun ρ => by simp only [SV.den, h2, h6], fun ρ wb P => by simp only [SV.ok, h3, h7], fun m hm => ?_⟩
    simp only [SV.has] at hm
    split at hm
    · rename_i hq; exact h4 m hq
    · exact h8 m hm
  | .agg l, K, h => by
    obtain ⟨l', h1, h2, h3, h4⟩ := renL_sound (l := l) h
    exact ⟨_, h1, fun ρ => by simp only [SV.den, h2], fun ρ wb P => by simp only [SV.ok, h3], fun m hm => h4 m (by simpa only [SV.has] using hm)⟩
  | .tup l, K, h => by
    obtain ⟨l', h1, h2, h3, h4⟩ := renL_sound (l := l) h
    exact ⟨_, h1, fun ρ => by simp only [SV.den, h2], fun ρ wb P => by simp only [SV.ok, h3], fun m hm => h4 m (by simpa only [SV.has] using hm)⟩
  | .dead, K, h => by unfold renK at h; exact h.elim
theorem renL_sound : ∀ {l : List SV} {K : List SV → Prop}, renLK τ l K → ∃ y, K y ∧ (∀ ρ, denL ρ y = denL (comp τ ρ) l) ∧ (∀ ρ wb P, okL ρ wb P y ↔ okL (comp τ ρ) wb P l) ∧ ∀ m, hasL m l = true → Dom τ m
  | [], K, h => ⟨[], h, fun _ => rfl, fun _ _ _ => by simp only [okL], fun m hm => by simp [hasL] at hm⟩
  | x :: r, K, h => by
    obtain ⟨y, h1, h2, h3, h4⟩ := ren_sound (x := x) h
    obtain ⟨l', h5, h6, h7, h8⟩ := renL_sound (l := r) h1
    refine ⟨_, h5, fun ρ => by simp only [denL, h2, h6], fun ρ wb P => by simp only [okL, h3, h7], fun m hm => ?_⟩
    simp only [hasL] at hm
    split at hm
    · rename_i hq; exact h4 m hq
    · exact h8 m hm
end
theorem renN_sound : ∀ {l : List Nat} {K : List Nat → Prop}, renNK τ l K → ∃ y, K y ∧ (∀ ρ : Places, y.map ρ = l.map (comp τ ρ)) ∧ ∀ m, hasN m l = true → Dom τ m
  | [], K, h => ⟨[], h, fun _ => rfl, fun m hm => by simp [hasN] at hm⟩
  | n :: r, K, h => by
    obtain ⟨m, hm, h⟩ := look_sound h
    obtain ⟨l, h1, h2, h3⟩ := renN_sound (l := r) h
    refine ⟨_, h1, fun ρ => by simp only [List.map_cons, h2, comp, hm], fun k hk => ?_⟩
    simp only [hasN] at hk
    split at hk
    · rename_i hq; exact dom_beq hq ⟨m, hm⟩
    · exact h3 k hk
theorem renC_sound : ∀ {l : List Ck} {K : List Ck → Prop}, renCK τ l K → ∃ y, K y ∧ (∀ ρ, star ρ y = star (comp τ ρ) l) ∧ (∀ ρ wb P, okC ρ wb P y ↔ okC (comp τ ρ) wb P l) ∧ ∀ m, hasC m l = true → Dom τ m
  | [], K, h => ⟨[], h, fun _ => rfl, fun _ _ _ => Iff.rfl, fun m hm => by simp [hasC] at hm⟩
  | .blk n e cs :: r, K, h => by
    obtain ⟨m, hm, h⟩ := look_sound h
    obtain ⟨cs', h1, h2, h3, h4⟩ := renL_sound (l := cs) h
    obtain ⟨l, h5, h6, h7, h8⟩ := renC_sound (l := r) h1
    refine ⟨_, h5, fun ρ => by simp only [star, Ck.den, h2, h6, comp, hm], fun ρ wb P => by simp only [okC, Ck.ok, h2, h3, h7], fun k hk => ?_⟩
    simp only [hasC, Ck.has] at hk
    split at hk
    · rename_i hq
      split at hq
      · rename_i hq2; exact dom_beq hq2 ⟨m, hm⟩
      · exact h4 k hq
    · exact h8 k hk
  | .row n e cap c :: r, K, h => by
    obtain ⟨m, hm, h⟩ := look_sound h
    obtain ⟨l, h5, h6, h7, h8⟩ := renC_sound (l := r) h
    refine ⟨_, h5, fun ρ => by simp only [star, Ck.den, h6, comp, hm], fun ρ wb P => by simp only [okC, Ck.ok, h7], fun k hk => ?_⟩
    simp only [hasC, Ck.has] at hk
    split at hk
    · rename_i hq; exact dom_beq hq ⟨m, hm⟩
    · exact h8 k hk
  | .ab key ns A :: r, K, h => by
    obtain ⟨ns', h1, h2, h4⟩ := renN_sound (l := ns) h
    obtain ⟨l, h5, h6, h7, h8⟩ := renC_sound (l := r) h1
    refine ⟨_, h5, fun ρ => by simp only [star, Ck.den, h2, h6], fun ρ wb P => by simp only [okC, Ck.ok, h7], fun k hk => ?_⟩
    simp only [hasC, Ck.has] at hk
    split at hk
    · rename_i hq; exact h4 k hq
    · exact h8 k hk
theorem add_sound {n m : Nat} {K : Ren → Prop} (h : addK n m τ K) : ∃ τ', K τ' := by
  unfold addK at h
  split at h <;> exact ⟨_, h⟩
mutual
theorem mtV_sound : ∀ {x y : SV} {τ : Ren} {K : Ren → Prop}, mtV x y τ K → ∃ τ', K τ'
  | .raw v, y, τ, K, h => ⟨_, h⟩
  | .ptr n k, y, τ, K, h => by unfold mtV at h; split at h; exact add_sound h; exact h.elim
  | .sl n s o len cap, y, τ, K, h => by unfold mtV at h; split at h; exact add_sound h; exact h.elim
  | .el n s i j, y, τ, K, h => by unfold mtV at h; split at h; exact add_sound h; exact h.elim
  | .bs a cap l, y, τ, K, h => ⟨_, h⟩
  | .bp a l i, y, τ, K, h => ⟨_, h⟩
  | .rs a cap c, y, τ, K, h => ⟨_, h⟩
  | .rp a c i j, y, τ, K, h => ⟨_, h⟩
  | .ifc t x, y, τ, K, h => by unfold mtV at h; split at h; exact mtV_sound (x := x) h; exact h.elim
  | .fn f a b, y, τ, K, h => by
    unfold mtV at h
    split at h
    · obtain ⟨τ1, h⟩ := mtL_sound (l := a) h
      exact mtL_sound (l := b) h
    · exact h.elim
  | .agg l, y, τ, K, h => by unfold mtV at h; split at h; exact mtL_sound (l := l) h; exact ⟨_, h⟩
  | .tup l, y, τ, K, h => by unfold mtV at h; split at h; exact mtL_sound (l := l) h; exact ⟨_, h⟩
  | .dead, y, τ, K, h => ⟨_, h⟩
theorem mtL_sound : ∀ {l l' : List SV} {τ : Ren} {K : Ren → Prop}, mtL l l' τ K → ∃ τ', K τ'
  | [], l', τ, K, h => ⟨_, h⟩
  | x :: r, l', τ, K, h => by
    unfold mtL at h
    split at h
    · obtain ⟨τ1, h⟩ := mtV_sound (x := x) h
      exact mtL_sound (l := r) h
    · exact h.elim
end
theorem mtN_sound : ∀ {l l' : List Nat} {τ : Ren} {K : Ren → Prop}, mtN l l' τ K → ∃ τ', K τ'
  | [], l', τ, K, h => by cases l' <;> exact ⟨τ, h⟩
  | n :: r, [], τ, K, h => ⟨_, h⟩
  | n :: r, m :: l, τ, K, h => by
    obtain ⟨τ1, h⟩ := add_sound h
    exact mtN_sound (l := r) h
theorem mtC_sound : ∀ {l H : List Ck} {τ : Ren} {K : Ren → List Ck → List Ck → Prop}, mtC l H τ K → ∃ τ' taken rest, K τ' taken rest ∧ (∀ ρ, star ρ H = star ρ taken * star ρ rest) ∧ (∀ ρ wb P, okC ρ wb P H → okC ρ wb P taken ∧ okC ρ wb P rest)
  | [], H, τ, K, h => ⟨τ, [], H, h, fun ρ => by simp [star, emp_sep], fun _ _ _ hk => ⟨trivial, hk⟩⟩
  | .blk n e cs :: r, H, τ, K, h => by
    replace h := look_sound h
    obtain ⟨m, hm, h⟩ := h
    replace h := findB_sound h
    obtain ⟨H1, e', cs', H2, rfl, h⟩ := h
    replace h := mtL_sound h
    obtain ⟨τ1, h⟩ := h
    have h := zip_sound h
    rw [List.append_nil, List.reverse_reverse] at h
    obtain ⟨τ2, tk, rest, h1, h2, h3⟩ := mtC_sound (l := r) h
    exact ⟨τ2, _, rest, h1, fun ρ => by rw [star_mid, h2]; simp only [star]; ac_rfl, fun ρ wb P hk => by rw [okC_mid] at hk; have := h3 ρ wb P hk.2; exact ⟨⟨hk.1, this.1⟩, this.2⟩⟩
  | .row n e cap c :: r, H, τ, K, h => by
    replace h := look_sound h
    obtain ⟨m, hm, h⟩ := h
    replace h := findR_sound h
    obtain ⟨H1, e', cap', c', H2, rfl, h⟩ := h
    have h := zip_sound h
    rw [List.append_nil, List.reverse_reverse] at h
    obtain ⟨τ2, tk, rest, h1, h2, h3⟩ := mtC_sound (l := r) h
    exact ⟨τ2, _, rest, h1, fun ρ => by rw [star_mid, h2]; simp only [star]; ac_rfl, fun ρ wb P hk => by rw [okC_mid] at hk; have := h3 ρ wb P hk.2; exact ⟨⟨hk.1, this.1⟩, this.2⟩⟩
  | .ab key ns A :: r, H, τ, K, h => by
    unfold mtC at h
    split at h
    · replace h := look_sound h
      obtain ⟨m, hm, h⟩ := h
      replace h := findA1_sound h
      obtain ⟨H1, ns', A', H2, rfl, h⟩ := h
      replace h := mtN_sound h
      obtain ⟨τ1, h⟩ := h
      have h := zip_sound h
      rw [List.append_nil, List.reverse_reverse] at h
      obtain ⟨τ2, tk, rest, h1, h2, h3⟩ := mtC_sound (l := r) h
      exact ⟨τ2, _, rest, h1, fun ρ => by rw [star_mid, h2]; simp only [star]; ac_rfl, fun ρ wb P hk => by rw [okC_mid] at hk; have := h3 ρ wb P hk.2; exact ⟨⟨hk.1, this.1⟩, this.2⟩⟩
    · replace h := findA_sound h
      obtain ⟨H1, ns', A', H2, rfl, h⟩ := h
      have h := zip_sound h
      rw [List.append_nil, List.reverse_reverse] at h
      obtain ⟨τ2, tk, rest, h1, h2, h3⟩ := mtC_sound (l := r) h
      exact ⟨τ2, _, rest, h1, fun ρ => by rw [star_mid, h2]; simp only [star]; ac_rfl, fun ρ wb P hk => by rw [okC_mid] at hk; have := h3 ρ wb P hk.2; exact ⟨⟨hk.1, this.1⟩, this.2⟩⟩
theorem keep_sound {F : List Nat} : ∀ {τ : Ren} {K : Ren → Prop}, keepK F τ K → ∃ τF, K τF ∧ ∀ n m, findN τF n = some m → hasN n F = true ∧ findN τ n = some m
  | [], K, h => ⟨[], h, fun n m hm => by cases hm⟩
  | (a, b) :: r, K, h => by
    obtain ⟨l, h1, h2⟩ := keep_sound (τ := r) h
    split at h1
    · rename_i ha
      refine ⟨_, h1, fun n m hm => ?_⟩
      simp only [findN] at hm ⊢
      split at hm
      · rename_i hb
        rw [← Nat.eq_of_beq_eq_true hb]
        exact ⟨ha, hm⟩
      · exact h2 n m hm
    · rename_i ha
      refine ⟨_, h1, fun n m hm => ?_⟩
      have := h2 n m hm
      refine ⟨this.1, ?_⟩
      simp only [findN]
      split
      · rename_i hb
        rw [Nat.eq_of_beq_eq_true hb, this.1] at ha
        cases ha
      · exact this.2
theorem news_sound : ∀ {N : List Nat} {d : Nat} {K : Ren → Prop}, newsK N d K → ∃ τN, K τN
  | [], d, K, h => ⟨[], h⟩
  | n :: r, d, K, h => by
    obtain ⟨l, h⟩ := news_sound (N := r) h
    exact ⟨_, h⟩
theorem appR_sound : ∀ {l r : Ren} {K : Ren → Prop}, appRK l r K → K (l ++ r)
  | [], _, _, h => h
  | x :: l, r, _, h => appR_sound (l := l) h
theorem appC_sound : ∀ {l r : List Ck} {K : List Ck → Prop}, appCK l r K → K (l ++ r)
  | [], _, _, h => h
  | x :: l, r, _, h => appC_sound (l := l) h
theorem findN_append : ∀ (l r : Ren) (n : Nat), findN (l ++ r) n = match findN l n with | some m => some m | none => findN r n
  | [], r, n => rfl
  | (a, b) :: l, r, n => by
    simp only [List.cons_append, findN]
    split
    · rfl
    · exact findN_append l r n
def swap : Ren → Ren
  | [] => []
  | (a, b) :: r => (b, a) :: swap r
theorem find_second : ∀ {l : Ren} {n m : Nat}, findN l n = some m → hasN m (seconds l) = true
  | (a, b) :: r, n, m, h => by
    simp only [findN] at h
    simp only [seconds, hasN]
    split at h
    · cases h; rw [beq_self]
    · split
      · rfl
      · exact find_second h
theorem swap_none : ∀ {l : Ren} {m : Nat}, hasN m (seconds l) = false → findN (swap l) m = none
  | [], _, _ => rfl
  | (a, b) :: r, m, h => by
    simp only [seconds, hasN] at h
    simp only [swap, findN]
    split at h
    · cases h
    · rename_i hq
      rw [hq]
      exact swap_none h
theorem free_sound {rest : List Ck} {τF : Ren} : ∀ {l : List Nat}, freeB rest τF l = true → (∀ c, hasN c l = true → hasC c rest = false ∧ hasN c (seconds τF) = false)
  | [], _, c, hc => by simp [hasN] at hc
  | x :: r, h, c, hc => by
    simp only [freeB] at h
    split at h
    · rename_i h1 h2 h3
      simp only [hasN] at hc
      split at hc
      · rename_i hb; rw [← Nat.eq_of_beq_eq_true hb]; exact ⟨h1, h2⟩
      · exact free_sound h c hc
    · cases h
theorem swap_find {rest : List Ck} {τF : Ren} : ∀ {l : Ren}, freeB rest τF (seconds l) = true → ∀ {n m : Nat}, findN l n = some m → findN (swap l) m = some n
  | (a, b) :: r, h, n, m, hn => by
    simp only [seconds, freeB] at h
    split at h
    · rename_i h1 h2 h3
      simp only [findN] at hn
      simp only [swap, findN]
      split at hn
      · rename_i hb
        cases hn
        rw [beq_self]
        simp only [Nat.eq_of_beq_eq_true hb]
      · have h4 := find_second hn
        split
        · rename_i hb
          rw [Nat.eq_of_beq_eq_true hb, h4] at h3
          cases h3
        · exact swap_find h hn
    · cases h
/-- A CALL, by the callee's contract; N: the names that are new in what it leaves -/
theorem call_con {F N : List Nat} {f : FuncId} {as : List SV} {pre : List Ck} {post : SV → Hp → List Ck → Prop} (hc : Con Pg F f as P pre post) {args : List SV} {d : Nat} {K : Kont}
    (h : callK F N as pre args H d fun as' pre' taken τ2 rest cs => as' = args ∧ pre' = taken ∧ ∀ x P' H', Hp.le P P' → post x P' H' → renK τ2 x fun x' => renCK τ2 H' fun H'' => appCK H'' rest fun H3 => K x' cs P' H3) : CallVC Pg f args P H d K := by
  refine ⟨hc.1, fun ρ wb w R hM ha => ?_⟩
  replace h := mtL_sound h
  obtain ⟨τ0, h⟩ := h
  replace h := mtC_sound h
  obtain ⟨τ, taken, rest, h, hst, hoc⟩ := h
  replace h := renL_sound h
  obtain ⟨as', h, ha1, ha2, -⟩ := h
  replace h := renC_sound h
  obtain ⟨pre', h, hp1, hp2, -⟩ := h
  replace h := keep_sound h
  obtain ⟨τF, h, hF⟩ := h
  replace h := news_sound h
  obtain ⟨τN, h⟩ := h
  split at h
  · rename_i hfree
    replace h := appR_sound h
    obtain ⟨rfl, rfl, h⟩ := h
    have hok := hoc ρ wb P hM.ok
    have hmem : Mem wb w (own P * (star (comp τ ρ) pre * (star ρ rest * R))) := by
      have := hM.mem
      rw [hst ρ, hp1 ρ] at this
      exact this.eq (by ac_rfl)
    have hcall := hc.2 (comp τ ρ) wb w (star ρ rest * R) ⟨hmem, (hp2 ρ wb P).1 hok.1⟩ ((ha2 ρ wb P).1 ha)
    rw [← ha1 ρ] at hcall
    refine hcall.mono ?_
    rintro e w' ⟨ρ', x, P', H', hF', rfl, hx, hM', hle, hpost⟩
    have h := h x P' H' hle hpost
    replace h := ren_sound h
    obtain ⟨x', h, hx1, hx2, hx3⟩ := h
    replace h := renC_sound h
    obtain ⟨H'', h, hh1, hh2, hh3⟩ := h
    have h := appC_sound h
    have hfr := free_sound hfree
    let ρc : Places := fun m => match findN (swap τN) m with | some n => ρ' n | none => ρ m
    have hag : Ag ρ ρc (seconds τN) := fun m hm => by show (match findN (swap τN) m with | some n => ρ' n | none => ρ m) = _; rw [swap_none hm]
    have hcomp : ∀ n, Dom (τN ++ τF) n → ρ' n = comp (τN ++ τF) ρc n := by
      rintro n ⟨m, hm⟩
      rw [findN_append] at hm
      unfold comp
      rw [findN_append]
      cases hn : findN τN n with
      | some m' =>
        dsimp only
        show _ = (match findN (swap τN) m' with | some n => ρ' n | none => ρ m')
        rw [swap_find hfree hn]
      | none =>
        rw [hn] at hm
        dsimp only at hm ⊢
        rw [hm]
        dsimp only
        have h3 := hF n m hm
        have h4 : hasN m (seconds τN) = false := by
          cases hq : hasN m (seconds τN) with
          | false => rfl
          | true => have := (hfr m hq).2; rw [find_second hm] at this; cases this
        rw [hag m h4, hF' n h3.1]
        unfold comp
        rw [h3.2]
    have hxd : x'.den ρc = x.den ρ' := by rw [hx1]; exact (SV.den_agree x fun m hm => (hcomp m (hx3 m hm)).symm)
    have hxo : x'.ok ρc wb P' := (hx2 ρc wb P').2 (SV.ok_agree x (fun m hm => (hcomp m (hx3 m hm)).symm) hx)
    have hsa := star_agree (ρ := ρ') (ρ' := comp (τN ++ τF) ρc) (wb := wb) (P := P') H' fun m hm => (hcomp m (hh3 m hm)).symm
    have hsr := star_agree (ρ := ρ) (ρ' := ρc) (wb := wb) (P := P) rest fun m hm => hag m (by
      cases hq : hasN m (seconds τN) with
      | false => rfl
      | true => rw [(hfr m hq).1] at hm; cases hm)
    refine ⟨ρc, x', seconds τN, P', _, hag, by rw [hxd], hxo, ⟨?_, ?_⟩, hle, h⟩
    · rw [star_append, hh1, hsa.1, hsr.1]
      exact hM'.mem.eq (by ac_rfl)
    · exact okC_append.2 ⟨(hh2 ρc wb P').2 (hsa.2 hM'.ok), okC_mono hle _ (hsr.2 hok.2)⟩
  · exact h.elim
end
end Go.Eng
