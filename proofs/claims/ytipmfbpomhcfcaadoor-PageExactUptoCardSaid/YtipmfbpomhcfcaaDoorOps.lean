/- A script that came in (a slice of structs of four ints and a slice of bytes), opened to cells. -/
import Derived.Test.YtipmfbpomhcfcaaDoorRow
import Derived.Test.YtipmfbpomhcfcaaDoorPageExact
import Derived.Deep.Slices
import Derived.Deep.Fields
namespace Go.Le
open Go Go.RowKit Go.ChangeShapes Go.WideShapes Go.Deep
section
variable {H : Type} {enc : TypeId × Value → H} {P : Program} {W : World}

/-- a cell that holds a slice of bytes -/
theorem open_bytes_at {t tu : TypeId} {fuel : Nat} {v : Value} {x : DataW H × List MemPlace} (ht : P.underlying t = some (.slice tu)) (hu : P.underlying tu = some (.int .u8)) (hc : P.cellsOf tu = 1)
    (h : DataW.trod enc P W 0 (fun _ => true) true fuel t [v] = some x) :
    ∃ a n c l, v = .slice a n c ∧ Sl W a n c (byts l) ∧ (n = 0 ∨ ∃ elems spare, x.1 = .slice elems spare ∧ elems.length = n) := by
  rcases open_ints ht hu hc h with ⟨hcs, hx⟩ | ⟨a, len, cap, zs, hcs, _, hl, hm, hz, hx, hcell, hwz⟩
  · simp only [List.cons.injEq, and_true] at hcs
    subst hcs
    exact ⟨none, 0, 0, [], rfl, Sl.nil' W, .inl rfl⟩
  · simp only [List.cons.injEq, and_true] at hcs
    subst hcs
    simp only [if_true] at hz
    have hspot : 0 < cap → a.spot = none := by
      intro h0
      have := World.cell?_spot (hcell 0 (by omega))
      simpa [Addr.add] using this
    refine ⟨some a, len, cap, (zs.take len).map fun n => UInt8.ofNat n.toNat, rfl, ⟨by rw [byts_length]; simp; omega, hl, by unfold maxLen at hm; exact hm, (fun h => by cases h), (fun p hp h0 => by cases hp; exact hspot h0), fun i hi p hp => ?_⟩, .inr ⟨_, _, by rw [hx], by simp [lits]; omega⟩⟩
    cases hp
    have e1 : a.add i = ⟨a.block, a.off + i, none⟩ := by
      have := hspot (by omega)
      cases a; simp only at this; subst this; exact Addr.add_lit _ _ _
    have hcj := hcell i (by omega)
    rw [e1] at hcj
    rw [hcj]
    have hzi : zs.getD i 0 = zs[i]'(by omega) := by simp [List.getD, List.getElem?_eq_getElem (show i < zs.length by omega)]
    have hw := hwz (zs[i]'(by omega)) (List.getElem_mem _)
    have hr : 0 ≤ zs[i]'(by omega) ∧ zs[i]'(by omega) ≤ 255 := by simpa [Lit.wf, IntKind.min, IntKind.max, IntKind.signed, IntKind.bits] using hw
    rw [hzi]
    simp only [byts, List.map_map, List.getElem?_map, List.getElem?_take, hi, if_true, List.getElem?_eq_getElem (show i < zs.length by omega), Option.map_some, Function.comp_apply, byt, UInt8.toNat_ofNat']
    congr 2
    omega

/-- one field's cell, out of a struct's cells -/
theorem field_cell {base : Nat} {spare : Nat → Bool} {held : Bool} {n : Nat} {fs : Array Field} {a : Addr} {cs : List Value} {ys : List (DataW H × List MemPlace)} (hone : oneCellFields P fs = true) (hc : W.cells? base a fs.size = some cs)
    (hf : ∀ (i : Nat) (f : Field), fs[i]? = some f → DataW.trod enc P W base spare held n f.type ((cs.drop f.offset).take (P.cellsOf f.type)) = ys[i]?) (hl : ys.length = fs.size) (j : Nat) (f : Field) (hj : fs[j]? = some f) :
    ∃ v y, W.cell? (a.add j) = some v ∧ ys[j]? = some y ∧ DataW.trod enc P W base spare held n f.type [v] = some y := by
  obtain ⟨_, hcl, hat⟩ := World.cells?_some hc
  obtain ⟨ho, hk⟩ := hone_of hone j f hj
  have hjl : j < fs.size := (Array.getElem?_eq_some_iff.1 hj).1
  have h1 := hf j f hj
  have e : (cs.drop f.offset).take (P.cellsOf f.type) = [cs[j]'(by omega)] := by
    rw [ho, hk, List.drop_eq_getElem_cons (by omega)]; rfl
  rw [e] at h1
  refine ⟨cs[j]'(by omega), ys[j]'(by omega), ?_, List.getElem?_eq_getElem (by omega), by rw [h1]; exact List.getElem?_eq_getElem (by omega)⟩
  rw [hat j hjl]
  exact List.getElem?_eq_getElem (by omega)

/-- a script that came in; each element's bytes no more than its datum counts -/
theorem open_ops {t te ti tb tu : TypeId} {fuel : Nat} {cs : List Value} {x : DataW H × List MemPlace} (size : DataW H → Nat) (hsize : ∀ (ds : List (DataW H)) elems spare, DataW.slice elems spare ∈ ds → elems.length ≤ size (.agg ds)) {fs : Array Field} (ht : P.underlying t = some (.slice te)) (he : P.underlying te = some (.struct fs))
    (hone : oneCellFields P fs = true) (hC : P.cellsOf te = 5) (hn : fs.size = 5) (hi : P.underlying ti = some (.int .i64)) (hb : P.underlying tb = some (.slice tu)) (hu : P.underlying tu = some (.int .u8)) (hcu : P.cellsOf tu = 1)
    (hty : ∀ j, j < 4 → (fs[j]?).map (·.type) = some ti) (hty4 : (fs[4]?).map (·.type) = some tb)
    (h : DataW.trod enc P W 0 (fun _ => true) true fuel t cs = some x) :
    ∃ a n c, cs = [.slice a n c] ∧ n ≤ c ∧ c ≤ 9223372036854775807 ∧ ((n = 0 ∧ x.1 = .nil) ∨ ∃ (D : Nat → DataW H) (sp : List (DataW H)), x.1 = .slice ((List.range n).map D) sp ∧
      ∀ i, i < n → ∃ b o kd no av cv sa m sc l, a = some ⟨b, o, none⟩ ∧ b < W.heap.size ∧ OpAt W b (o + i * 5) kd no av cv sa m sc ∧ Sl W sa m sc (byts l) ∧ m ≤ size (D i)) := by
  rcases open_slice ht h with ⟨rfl, rfl⟩ | ⟨a, len, cap, m, n, D, Pl, rfl, _, hl, hm, hmm, rfl, hel⟩
  · exact ⟨none, 0, 0, rfl, Nat.le_refl _, by omega, .inl ⟨rfl, rfl⟩⟩
  · refine ⟨some a, len, cap, rfl, hl, by unfold maxLen at hm; exact hm, .inr ⟨D, _, rfl, fun i hi' => ?_⟩⟩
    have hmi : i < m := by rw [hmm]; simp only [if_true]; omega
    obtain ⟨cs', hc, ht'⟩ := hel i hmi
    rw [hC] at hc
    obtain ⟨ys, n', hn', hy, hlen, hyl, hf⟩ := DataW.trod_struct he ht'
    simp only [Prod.mk.injEq] at hy
    have fld : ∀ j (hj : j < 5), ∃ v y, W.cell? ((a.add (i * 5)).add j) = some v ∧ ys[j]? = some y ∧ DataW.trod enc P W 0 (fun _ => true) true n' (fs[j]'(by omega)).type [v] = some y := fun j hj =>
      field_cell hone (by rw [hn]; exact hc) hf hyl j _ (Array.getElem?_eq_getElem (by omega))
    have tyj : ∀ j (hj : j < 4), (fs[j]'(by omega)).type = ti := fun j hj => by
      have := hty j hj
      rw [Array.getElem?_eq_getElem (by omega)] at this
      simpa using this
    have ty4 : (fs[4]'(by omega)).type = tb := by
      rw [Array.getElem?_eq_getElem (by omega)] at hty4
      simpa using hty4
    have ints : ∀ j (hj : j < 4), ∃ z, W.cell? ((a.add (i * 5)).add j) = some (.int .i64 z) := by
      intro j hj
      obtain ⟨v, y, h1, h2, h3⟩ := fld j (by omega)
      rw [tyj j hj] at h3
      obtain ⟨z, hz, _⟩ := DataW.trod_int hi h3
      simp only [List.cons.injEq, and_true] at hz
      exact ⟨z, by rw [h1, hz]⟩
    obtain ⟨v4, y4, g1, g2, g3⟩ := fld 4 (by omega)
    rw [ty4] at g3
    obtain ⟨sa, sm, sc, l, rfl, hsl, hsz⟩ := open_bytes_at hb hu hcu g3
    have hspot : a.spot = none := by
      obtain ⟨cs0, hc0, ht0⟩ := hel 0 (by omega)
      rw [hC] at hc0
      obtain ⟨_, hcl, hat⟩ := World.cells?_some hc0
      have h0 := hat 0 (by omega)
      rw [List.getElem?_eq_getElem (by omega)] at h0
      simpa [Addr.add] using World.cell?_spot h0
    have ea : ∀ j, (a.add (i * 5)).add j = ⟨a.block, a.off + i * 5 + j, none⟩ := by
      intro j
      cases a; simp only at hspot; subst hspot
      rw [Addr.add_lit, Addr.add_lit]
    obtain ⟨z0, k0⟩ := ints 0 (by omega)
    obtain ⟨z1, k1⟩ := ints 1 (by omega)
    obtain ⟨z2, k2⟩ := ints 2 (by omega)
    obtain ⟨z3, k3⟩ := ints 3 (by omega)
    rw [ea] at k0 k1 k2 k3 g1
    refine ⟨a.block, a.off, z0, z1, z2, z3, sa, sm, sc, l, by cases a; simp only at hspot; subst hspot; rfl, World.block_lt_of_cell? W ⟨a.block, a.off + i * 5 + 0, none⟩ k0, ⟨k0, k1, k2, k3, g1⟩, hsl, ?_⟩
    rcases hsz with rfl | ⟨elems, spare, e1, e2⟩
    · exact Nat.zero_le _
    · rw [hy.1, ← e2]
      refine hsize _ elems spare ?_
      rw [← e1]
      exact List.mem_map.2 ⟨y4, List.mem_of_getElem? g2, rfl⟩
end
end Go.Le
