/- Data that came in, of any plain type, opened as the engine reads it, with a bound on how long its slices are. No program in sight. -/
import Derived.Test.YtpdppacafkdgdaaDeep
set_option linter.unusedVariables false
set_option linter.unusedSimpArgs false
namespace Go.Eng
open Go Go.RowKit Go.Le Go.ChangeShapes Go.WideShapes Go.Deep
mutual
/-- no slice in it is longer -/
def Cell.le (m : Nat) : Cell → Prop
  | .v _ => True
  | .bs _ _ l => l.length ≤ m
  | .rs _ _ _ l => l.length ≤ m ∧ cellsLeR m l
def cellsLeR (m : Nat) : List (List Cell) → Prop
  | [] => True
  | x :: r => cellsLe m x ∧ cellsLeR m r
def cellsLe (m : Nat) : List Cell → Prop
  | [] => True
  | c :: r => c.le m ∧ cellsLe m r
end
theorem cellsLe_iff {m : Nat} : ∀ {l : List Cell}, cellsLe m l ↔ ∀ c ∈ l, c.le m
  | [] => by simp [cellsLe]
  | c :: r => by simp only [cellsLe, cellsLe_iff (l := r), List.mem_cons, forall_eq_or_imp]
theorem cellsLeR_iff {m : Nat} : ∀ {l : List (List Cell)}, cellsLeR m l ↔ ∀ x ∈ l, cellsLe m x
  | [] => by simp [cellsLeR]
  | x :: r => by simp only [cellsLeR, cellsLeR_iff (l := r), List.mem_cons, forall_eq_or_imp]
theorem cellsLe_append {m : Nat} {a b : List Cell} (h : cellsLe m a) (k : cellsLe m b) : cellsLe m (a ++ b) := by
  rw [cellsLe_iff] at *
  intro c hc
  rcases List.mem_append.1 hc with hc | hc
  · exact h c hc
  · exact k c hc
mutual
theorem Cell.le_mono {m m' : Nat} (h : m ≤ m') : ∀ c : Cell, c.le m → c.le m'
  | .v _, _ => by simp only [Cell.le]
  | .bs _ _ l, k => by simp only [Cell.le] at k ⊢; omega
  | .rs _ _ _ l, k => by simp only [Cell.le] at k ⊢; exact ⟨by omega, cellsLeR_mono h l k.2⟩
theorem cellsLeR_mono {m m' : Nat} (h : m ≤ m') : ∀ l : List (List Cell), cellsLeR m l → cellsLeR m' l
  | [], _ => by simp only [cellsLeR]
  | x :: r, k => by simp only [cellsLeR] at k ⊢; exact ⟨cellsLe_mono' h x k.1, cellsLeR_mono h r k.2⟩
theorem cellsLe_mono' {m m' : Nat} (h : m ≤ m') : ∀ l : List Cell, cellsLe m l → cellsLe m' l
  | [], _ => by simp only [cellsLe]
  | c :: r, k => by simp only [cellsLe] at k ⊢; exact ⟨Cell.le_mono h c k.1, cellsLe_mono' h r k.2⟩
end
theorem cellsLe_mono {m m' : Nat} {l : List Cell} (h : m ≤ m') (k : cellsLe m l) : cellsLe m' l := cellsLe_mono' h l k
/-- a measure of what is read -/
structure SizedD {H : Type} (size : DataW H → Nat) : Prop where
  len : ∀ e s, e.length ≤ size (.slice e s)
  elem : ∀ e s x, x ∈ e → size x ≤ size (.slice e s)
  part : ∀ ps x, x ∈ ps → size x ≤ size (.agg ps)
section
variable {H : Type} {enc : TypeId × Value → H} {P : Program} {W : World}
/-- opened -/
def OpenedS (W : World) (m : Nat) (sh : List Sh) (cs : List Value) : Prop := ∃ l : List Cell, cs = l.map Cell.den ∧ cellsO W (fun _ => none) l ∧ fitsL sh l ∧ cellsLe m l
theorem OpenedS.one {W : World} {m : Nat} {s : Sh} {c : Cell} (h1 : c.ok W fun _ => none) (h2 : s.fits c) (h3 : c.le m) : OpenedS W m [s] [c.den] := ⟨[c], rfl, by simp only [cellsO, and_true]; exact h1, by simp only [fitsL]; exact ⟨c, [], rfl, h2, rfl⟩, by simp only [cellsLe, and_true]; exact h3⟩
theorem OpenedS.append {W : World} {m : Nat} {a b : List Sh} {x y : List Value} (h : OpenedS W m a x) (k : OpenedS W m b y) : OpenedS W m (a ++ b) (x ++ y) := by
  obtain ⟨l, rfl, h2, h3, h4⟩ := h
  obtain ⟨r, rfl, k2, k3, k4⟩ := k
  refine ⟨l ++ r, by rw [List.map_append], ?_, fitsL_append h3 k3, cellsLe_append h4 k4⟩
  rw [cellsO_iff] at *
  intro c hc
  rcases List.mem_append.1 hc with hc | hc
  · exact h2 c hc
  · exact k2 c hc
theorem OpenedS.mono {W : World} {m m' : Nat} {sh : List Sh} {cs : List Value} (h : OpenedS W m sh cs) (k : m ≤ m') : OpenedS W m' sh cs := by
  obtain ⟨l, h1, h2, h3, h4⟩ := h
  exact ⟨l, h1, h2, h3, cellsLe_mono k h4⟩
theorem OpenedS.length {W : World} {m : Nat} {sh : List Sh} {cs : List Value} (h : OpenedS W m sh cs) : cs.length = sh.length := by
  obtain ⟨l, rfl, -, h3, -⟩ := h
  rw [List.length_map, fitsL_length h3]
/-- a slice of bytes that came in -/
theorem open_bytes_cellS (size : DataW H → Nat) (hsz : SizedD size) {t tu : TypeId} {fuel : Nat} {cs : List Value} {x : DataW H × List MemPlace} (ht : P.underlying t = some (.slice tu)) (hu : P.underlying tu = some (.int .u8)) (hc : P.cellsOf tu = 1)
    (h : DataW.trod enc P W 0 (fun _ => true) true fuel t cs = some x) : OpenedS W (size x.1) [.bytes] cs := by
  rcases open_ints ht hu hc h with ⟨rfl, hx⟩ | ⟨a, len, cap, zs, rfl, _, hl, hm, hz, hx, hcell, hwz⟩
  · refine OpenedS.one (c := .bs none 0 []) ?_ ⟨_, _, _, rfl⟩ (by simp only [Cell.le]; simp)
    simp only [Cell.ok]
    exact ⟨rfl, by simp, by omega, fun _ => rfl, fun p h => (by cases h), fun v hv => (by cases hv), fun p h => (by cases h)⟩
  · simp only [if_true] at hz
    have hlen : ((zs.take len).map fun n : Int => UInt8.ofNat n.toNat).length = len := by simp; omega
    have hcs : [Value.slice (some a) len cap] = [(Cell.bs (some a) cap ((zs.take len).map fun n : Int => UInt8.ofNat n.toNat)).den] := by simp only [Cell.den, hlen]
    rw [hcs]
    refine OpenedS.one ?_ ⟨_, _, _, rfl⟩ (by
      simp only [Cell.le, hlen]
      have := hsz.len (Go.ChangeShapes.lits (H := H) .u8 (zs.take len)) (Go.ChangeShapes.lits (H := H) .u8 (zs.drop len))
      rw [hx]
      refine Nat.le_trans ?_ this
      simp [Go.ChangeShapes.lits]; omega)
    simp only [Cell.ok, hlen]
    have hspot : 0 < cap → a.spot = none := by
      intro h0
      have := World.cell?_spot (hcell 0 (by omega))
      simpa [Addr.add] using this
    refine ⟨by rw [byts_length, hlen, Nat.mul_one], hl, by unfold maxLen at hm; exact hm, (fun h => by cases h), (fun p hp h0 => by cases hp; exact hspot h0), fun v hv => by obtain ⟨y, -, rfl⟩ := List.mem_map.1 hv; rfl, fun p hp => .inl fun i v hv => ?_⟩
    cases hp
    have hi : i < len := by have := (List.getElem?_eq_some_iff.1 hv).1; rw [byts_length, hlen] at this; exact this
    have e1 : a.add i = ⟨a.block, a.off + i, none⟩ := by
      have := hspot (by omega)
      cases a; simp only at this; subst this; exact Addr.add_lit _ _ _
    have hcj := hcell i (by omega)
    rw [e1] at hcj
    rw [hcj, ← hv]
    have hzi : zs.getD i 0 = zs[i]'(by omega) := by simp [List.getD, List.getElem?_eq_getElem (show i < zs.length by omega)]
    have hw := hwz (zs[i]'(by omega)) (List.getElem_mem _)
    have hr : 0 ≤ zs[i]'(by omega) ∧ zs[i]'(by omega) ≤ 255 := by simpa [Lit.wf, IntKind.min, IntKind.max, IntKind.signed, IntKind.bits] using hw
    rw [hzi]
    simp only [byts, List.map_map, List.getElem?_map, List.getElem?_take, hi, if_true, List.getElem?_eq_getElem (show i < zs.length by omega), Option.map_some, Function.comp_apply, byt, UInt8.toNat_ofNat']
    congr 2
    omega
mutual
/-- WHAT CAME IN, OPENED -/
theorem opnS (size : DataW H → Nat) (hsz : SizedD size) : ∀ (n : Nat) (t : TypeId) (sh : List Sh), shOf n P t = some sh → ∀ (fuel : Nat) (cs : List Value) (x : DataW H × List MemPlace), DataW.trod enc P W 0 (fun _ => true) true fuel t cs = some x → OpenedS W (size x.1) sh cs
  | 0, t, sh, h => by simp only [shOf] at h; cases h
  | n + 1, t, sh, h => by
    intro fuel cs x hx
    simp only [shOf] at h
    split at h
    · rename_i k hk
      cases h
      obtain ⟨m, rfl, -, hw⟩ := DataW.trod_int hk hx
      exact OpenedS.one (c := .v (.int k m)) (by simp only [Cell.ok]; rfl) ⟨m, rfl, hw⟩ (by simp only [Cell.le])
    · rename_i hk
      cases h
      obtain ⟨b, rfl, -⟩ := DataW.trod_bool hk hx
      exact OpenedS.one (c := .v (.bool b)) (by simp only [Cell.ok]; rfl) ⟨b, rfl⟩ (by simp only [Cell.le])
    · rename_i hk
      cases h
      obtain ⟨s, rfl, -, hs⟩ := DataW.trod_string hk hx
      exact OpenedS.one (c := .v (.string s)) (by simp only [Cell.ok]; rfl) ⟨s, rfl, hs⟩ (by simp only [Cell.le])
    · rename_i e hk
      split at h
      · rename_i hu
        split at h
        · rename_i hc
          cases h
          exact open_bytes_cellS size hsz hk hu hc hx
        · cases h
      · cases hsh : shOf n P e with
        | none => rw [hsh] at h; cases h
        | some se =>
          rw [hsh, Option.bind_some] at h
          split at h
          · rename_i hlen
            cases h
            rcases open_slice hk hx with ⟨rfl, -⟩ | ⟨a, len, cap, m, q, D, Pl, rfl, _, hl, hm, hmm, rfl, hel⟩
            · refine OpenedS.one (c := .rs none 0 se.length []) ?_ ⟨_, _, _, rfl, fun _ h => by simp at h⟩ (by simp only [Cell.le, cellsLeR]; simp)
              simp only [Cell.ok, cellsR]
              exact ⟨⟨by simp, by simp, by omega, fun _ => rfl, fun p h => (by cases h), fun v hv => by simp at hv, fun p h => (by cases h)⟩, trivial⟩
            · have hml : len ≤ m := by rw [hmm]; simp only [if_true]; exact hl
              have key : ∀ i, i < len → ∃ l : List Cell, (∀ j v, (l.map Cell.den)[j]? = some v → W.cell? ((a.add (i * se.length)).add j) = some v) ∧ cellsO W (fun _ => none) l ∧ fitsL se l ∧ cellsLe (size (D i)) l := by
                intro i hi
                obtain ⟨cs', hc, ht'⟩ := hel i (by omega)
                rw [← hlen.1] at hc
                obtain ⟨l, rfl, h2, h3, h4⟩ := opnS size hsz n e se hsh _ _ _ ht'
                obtain ⟨_, hcl, hat⟩ := World.cells?_some hc
                refine ⟨l, fun j v hv => ?_, h2, h3, h4⟩
                have hj : j < se.length := by rw [← hcl]; exact (List.getElem?_eq_some_iff.1 hv).1
                rw [hat j hj, hv]
              obtain ⟨F, hF⟩ := choose_lt key
              have hL : ((List.range len).map F).length = len := by simp
              have hcs : [Value.slice (some a) len cap] = [(Cell.rs (some a) cap se.length ((List.range len).map F)).den] := by simp only [Cell.den, hL]
              rw [hcs]
              refine OpenedS.one ?_ ⟨_, _, _, rfl, fun y hy => ?_⟩ ?_
              · have hspot : 0 < cap → a.spot = none := by
                  intro h0
                  obtain ⟨cs0, hc0, _⟩ := hel 0 (by rw [hmm]; simp only [if_true]; exact h0)
                  rw [← hlen.1] at hc0
                  obtain ⟨_, hcl0, hat0⟩ := World.cells?_some hc0
                  have h0 := hat0 0 hlen.2
                  rw [List.getElem?_eq_getElem (by omega)] at h0
                  simpa [Addr.add] using World.cell?_spot h0
                have hall : ∀ z ∈ ((List.range len).map F).map (fun l => l.map Cell.den), z.length = se.length := by
                  intro z hz
                  obtain ⟨l, hl', rfl⟩ := List.mem_map.1 hz
                  obtain ⟨i, hi, rfl⟩ := List.mem_map.1 hl'
                  rw [List.length_map, fitsL_length (hF i (List.mem_range.1 hi)).2.2.1]
                have hfm : ((List.range len).map F).flatMap (fun l => l.map Cell.den) = (((List.range len).map F).map (fun l => l.map Cell.den)).flatten := List.flatMap_def ..
                simp only [Cell.ok, hL]
                refine ⟨⟨?_, hl, by unfold maxLen at hm; exact hm, (fun h => by cases h), (fun p hp h0 => by cases hp; exact hspot h0), ?_, fun p hp => .inl fun i v hv => ?_⟩, ?_⟩
                · rw [hfm, List.length_flatten]
                  have e : (((List.range len).map F).map (fun l => l.map Cell.den)).map List.length = List.replicate len se.length := by
                    rw [List.eq_replicate_iff]
                    refine ⟨by simp, fun b hb => ?_⟩
                    obtain ⟨z, hz, rfl⟩ := List.mem_map.1 hb
                    exact hall z hz
                  rw [e, List.sum_replicate_nat]
                · intro v hv
                  obtain ⟨l, hl', hv⟩ := List.mem_flatMap.1 hv
                  obtain ⟨c, hc, rfl⟩ := List.mem_map.1 hv
                  obtain ⟨i, hi, rfl⟩ := List.mem_map.1 hl'
                  exact ok_oneCell (cellsO_iff.1 (hF i (List.mem_range.1 hi)).2.1 c hc)
                · cases hp
                  rw [hfm, flat_getN se.length hlen.2 _ _ hall] at hv
                  have hin : i / se.length < len := by
                    by_cases h : i / se.length < len
                    · exact h
                    · rw [List.getElem?_eq_none (by simp; omega)] at hv; cases hv
                  rw [List.getElem?_map, List.getElem?_map, List.getElem?_range hin] at hv
                  simp only [Option.map_some, Option.bind_some] at hv
                  have h1 := (hF (i / se.length) hin).1 (i % se.length) v hv
                  have hs := hspot (Nat.lt_of_lt_of_le (Nat.lt_of_le_of_lt (Nat.zero_le _) hin) hl)
                  have e1 : (a.add (i / se.length * se.length)).add (i % se.length) = ⟨a.block, a.off + i, none⟩ := by
                    cases a; simp only at hs; subst hs
                    rw [Addr.add_lit, Addr.add_lit, Nat.add_assoc, Nat.div_add_mod']
                  rw [e1] at h1
                  exact h1
                · rw [cellsR_iff]
                  intro z hz
                  obtain ⟨i, hi, rfl⟩ := List.mem_map.1 hz
                  have := hF i (List.mem_range.1 hi)
                  exact ⟨fitsL_length this.2.2.1, cellsO_iff.1 this.2.1⟩
              · obtain ⟨i, hi, rfl⟩ := List.mem_map.1 hy
                exact (hF i (List.mem_range.1 hi)).2.2.1
              · simp only [Cell.le, hL]
                refine ⟨by have := hsz.len ((List.range len).map D) ((List.range (m - len)).map fun j => D (len + j)); simp at this; exact this, ?_⟩
                rw [cellsLeR_iff]
                intro z hz
                obtain ⟨i, hi, rfl⟩ := List.mem_map.1 hz
                exact cellsLe_mono (hsz.elem _ _ _ (List.mem_map_of_mem hi)) (hF i (List.mem_range.1 hi)).2.2.2
          · cases h
    · rename_i fs hk
      cases hsh : shFs n P fs.toList 0 with
      | none => rw [hsh] at h; cases h
      | some s =>
        rw [hsh, Option.bind_some] at h
        split at h
        · rename_i hlen
          cases h
          obtain ⟨xs, q, -, rfl, hcl, hxl, hf⟩ := DataW.trod_struct hk hx
          have := opnSF size hsz n fs.toList 0 sh hsh (size (.agg (xs.map (·.1)))) cs (fun i f hfi => by
            have hif : fs[i]? = some f := by simpa using hfi
            have hi : i < xs.length := by rw [hxl]; exact (Array.getElem?_eq_some_iff.1 hif).1
            have h1 := hf i f hif
            rw [List.getElem?_eq_getElem hi] at h1
            exact ⟨_, _, h1, hsz.part _ _ (List.mem_map_of_mem (List.getElem_mem hi))⟩) (by rw [Nat.zero_add, hlen, hcl]; exact Nat.le_refl _)
          rw [List.drop_zero, List.take_of_length_le (by omega)] at this
          exact this
        · cases h
    · rename_i m e hk
      cases hsh : shOf n P e with
      | none => rw [hsh] at h; cases h
      | some se =>
        rw [hsh, Option.bind_some] at h
        split at h
        · rename_i hlen
          cases h
          obtain ⟨xs, q, -, rfl, hcl, hxl, hf⟩ := DataW.trod_array hk hx
          have key : ∀ k, k ≤ m → OpenedS W (size (.agg (xs.map (·.1)))) (List.replicate k se).flatten (cs.take (k * se.length)) := by
            intro k
            induction k with
            | zero => intro _; rw [Nat.zero_mul, List.take_zero]; exact ⟨[], rfl, trivial, by simp [fitsL], trivial⟩
            | succ k ih =>
              intro hk'
              have h0 := ih (by omega)
              have hi : k < xs.length := by omega
              have h1 := hf k (by omega)
              rw [List.getElem?_eq_getElem hi, ← hlen.1] at h1
              have h2 := (opnS size hsz n e se hsh _ _ _ h1).mono (hsz.part _ _ (List.mem_map_of_mem (List.getElem_mem hi)))
              have e1 : (List.replicate (k + 1) se).flatten = (List.replicate k se).flatten ++ se := by
                rw [List.replicate_succ', List.flatten_append]; simp
              have e2 : cs.take ((k + 1) * se.length) = cs.take (k * se.length) ++ (cs.drop (k * se.length)).take se.length := by
                rw [Nat.add_mul, Nat.one_mul, List.take_add]
              rw [e1, e2]
              exact h0.append h2
          have := key m (Nat.le_refl _)
          rw [List.take_of_length_le (by omega)] at this
          exact this
        · cases h
    · cases h
theorem opnSF (size : DataW H → Nat) (hsz : SizedD size) : ∀ (n : Nat) (fs : List Field) (o : Nat) (sh : List Sh), shFs n P fs o = some sh → ∀ (mm : Nat) (cs : List Value), (∀ (i : Nat) (f : Field), fs[i]? = some f → ∃ (fuel : Nat) (x : DataW H × List MemPlace), DataW.trod enc P W 0 (fun _ => true) true fuel f.type ((cs.drop f.offset).take (P.cellsOf f.type)) = some x ∧ size x.1 ≤ mm) → o + sh.length ≤ cs.length → OpenedS W mm sh ((cs.drop o).take sh.length)
  | n, [], o, sh, h => by
    intro mm cs _ _
    simp only [shFs] at h
    cases h
    rw [List.length_nil, List.take_zero]
    exact ⟨[], rfl, trivial, by simp [fitsL], trivial⟩
  | 0, f :: r, o, sh, h => by simp only [shFs] at h; cases h
  | n + 1, f :: r, o, sh, h => by
    intro mm cs hf hlen
    simp only [shFs] at h
    cases hs : shOf n P f.type with
    | none => rw [hs] at h; cases h
    | some s =>
      rw [hs, Option.bind_some] at h
      split at h
      · rename_i hfo
        cases hr : shFs n P r (o + s.length) with
        | none => rw [hr] at h; cases h
        | some sr =>
          rw [hr, Option.map_some] at h
          cases h
          obtain ⟨fuel, x, hx, hxs⟩ := hf 0 f rfl
          have h1 := (opnS size hsz n f.type s hs fuel _ x hx).mono hxs
          rw [hfo.1, ← hfo.2] at h1
          rw [List.length_append] at hlen ⊢
          have h2 := opnSF size hsz n r (o + s.length) sr hr mm cs (fun i g hg => hf (i + 1) g (by simpa using hg)) (by omega)
          have e : (cs.drop o).take (s.length + sr.length) = (cs.drop o).take s.length ++ (cs.drop (o + s.length)).take sr.length := by
            rw [List.take_add, List.drop_drop]
          rw [e]
          exact h1.append h2
      · cases h
end
end
end Go.Eng
