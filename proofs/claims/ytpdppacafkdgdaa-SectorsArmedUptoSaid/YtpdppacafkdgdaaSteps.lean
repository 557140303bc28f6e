/- A script of Steps that came in, and a Loss that came in, opened to cells. -/
import Derived.Test.YtpdppacafkdgdaaRow
import Derived.Test.YtpdppacafkdgdaaSec3
import Derived.Deep.Slices
import Derived.Deep.Fields
set_option linter.unusedVariables false
set_option linter.unusedSimpArgs false
namespace Go.Le
open Go Go.RowKit Go.ChangeShapes Go.WideShapes Go.Deep
/-- a step's values -/
structure StepV where
  kind : Int
  which : Int
  i : Int
  x : UInt8
  ba : Option Addr
  bn : Nat
  bc : Nat
  b : List UInt8
  la : Option Addr
  lc : Nat
  l : Loss
def StepV.cells (S : StepV) : List Value := [.int .i64 S.kind, .int .i64 S.which, .int .i64 S.i, .int .u8 (S.x.toNat : Int), .slice S.ba S.bn S.bc, .slice S.la S.l.keep.length S.lc, .int .i64 S.l.torn, .int .i64 S.l.off]
/-- what a step that came in holds -/
structure StepV.Ok (S : StepV) (W : World) : Prop where
  i : -9223372036854775808 ≤ S.i ∧ S.i ≤ 9223372036854775807
  b : Sl W S.ba S.bn S.bc (byts S.b)
  keep : Sl W S.la S.l.keep.length S.lc (u64s S.l.keep)
  loss : S.l.ok
/-- a script that came in -/
def ScriptS (W : World) (a : Option Addr) (n : Nat) (bulk : Nat) : Prop := ∀ i, i < n → ∃ (b o : Nat) (S : StepV), a = some ⟨b, o, none⟩ ∧ b < W.heap.size ∧ (∀ j, j < 8 → W.cell? ⟨b, o + i * 8 + j, none⟩ = S.cells[j]?) ∧ S.Ok W ∧ S.l.keep.length ≤ bulk
section
variable {H : Type} {enc : TypeId × Value → H} {P : Program} {W : World}

/-- a cell that holds a slice of bytes -/
theorem open_bytes_at {t tu : TypeId} {fuel : Nat} {v : Value} {x : DataW H × List MemPlace} (ht : P.underlying t = some (.slice tu)) (hu : P.underlying tu = some (.int .u8)) (hc : P.cellsOf tu = 1)
    (h : DataW.trod enc P W 0 (fun _ => true) true fuel t [v] = some x) :
    ∃ a n c l, v = .slice a n c ∧ Sl W a n c (byts l) ∧ (n = 0 ∨ ∃ elems spare, x.1 = .slice elems spare ∧ elems.length = n) := by
  rcases open_ints ht hu hc h with ⟨hcs, hx⟩ | ⟨a, len, cap, zs, hcs, _, hl, hm, hz, hx, hcell, hwz⟩
  · simp only [List.cons.injEq, and_true] at hcs
    subst hcs
    exact ⟨none, 0, 0, [], rfl, Sl.nil' W, .inl rfl⟩
  · simp only [List.cons.injEq, and_true] at hcs
    subst hcs
    simp only [if_true] at hz
    have hspot : 0 < cap → a.spot = none := by
      intro h0
      have := World.cell?_spot (hcell 0 (by omega))
      simpa [Addr.add] using this
    refine ⟨some a, len, cap, (zs.take len).map fun n => UInt8.ofNat n.toNat, rfl, ⟨by rw [byts_length]; simp; omega, hl, by unfold maxLen at hm; exact hm, (fun h => by cases h), (fun p hp h0 => by cases hp; exact hspot h0), fun i hi p hp => ?_⟩, .inr ⟨_, _, by rw [hx], by simp [lits]; omega⟩⟩
    cases hp
    have e1 : a.add i = ⟨a.block, a.off + i, none⟩ := by
      have := hspot (by omega)
      cases a; simp only at this; subst this; exact Addr.add_lit _ _ _
    have hcj := hcell i (by omega)
    rw [e1] at hcj
    rw [hcj]
    have hzi : zs.getD i 0 = zs[i]'(by omega) := by simp [List.getD, List.getElem?_eq_getElem (show i < zs.length by omega)]
    have hw := hwz (zs[i]'(by omega)) (List.getElem_mem _)
    have hr : 0 ≤ zs[i]'(by omega) ∧ zs[i]'(by omega) ≤ 255 := by simpa [Lit.wf, IntKind.min, IntKind.max, IntKind.signed, IntKind.bits] using hw
    rw [hzi]
    simp only [byts, List.map_map, List.getElem?_map, List.getElem?_take, hi, if_true, List.getElem?_eq_getElem (show i < zs.length by omega), Option.map_some, Function.comp_apply, byt, UInt8.toNat_ofNat']
    congr 2
    omega

/-- a cell that holds a slice of uint64 -/
theorem open_u64s_at {t tu : TypeId} {fuel : Nat} {v : Value} {x : DataW H × List MemPlace} (ht : P.underlying t = some (.slice tu)) (hu : P.underlying tu = some (.int .u64)) (hc : P.cellsOf tu = 1)
    (h : DataW.trod enc P W 0 (fun _ => true) true fuel t [v] = some x) :
    ∃ a c l, v = .slice a l.length c ∧ Sl W a l.length c (u64s l) ∧ (∀ y ∈ l, y < 18446744073709551616) ∧ (l.length = 0 ∨ ∃ elems spare, x.1 = .slice elems spare ∧ elems.length = l.length) := by
  rcases open_ints ht hu hc h with ⟨hcs, hx⟩ | ⟨a, len, cap, zs, hcs, _, hl, hm, hz, hx, hcell, hwz⟩
  · simp only [List.cons.injEq, and_true] at hcs
    subst hcs
    exact ⟨none, 0, [], rfl, Sl.nil' W, (fun _ h => by cases h), .inl rfl⟩
  · simp only [List.cons.injEq, and_true] at hcs
    subst hcs
    simp only [if_true] at hz
    have hspot : 0 < cap → a.spot = none := by
      intro h0
      have := World.cell?_spot (hcell 0 (by omega))
      simpa [Addr.add] using this
    have hwf : ∀ n ∈ zs, 0 ≤ n ∧ n ≤ 18446744073709551615 := fun n hn => by simpa [Lit.wf, IntKind.min, IntKind.max, IntKind.signed, IntKind.bits] using hwz n hn
    have hlen : ((zs.take len).map fun n : Int => n.toNat).length = len := by simp; omega
    refine ⟨some a, cap, (zs.take len).map fun n => n.toNat, by rw [hlen], ?_, ?_, .inr ⟨_, _, by rw [hx], by rw [hlen]; simp [lits]; omega⟩⟩
    · rw [hlen]
      refine ⟨by simp [u64s]; omega, hl, by unfold maxLen at hm; exact hm, (fun h => by cases h), (fun p hp h0 => by cases hp; exact hspot h0), fun i hi p hp => ?_⟩
      cases hp
      have e1 : a.add i = ⟨a.block, a.off + i, none⟩ := by
        have := hspot (by omega)
        cases a; simp only at this; subst this; exact Addr.add_lit _ _ _
      have hcj := hcell i (by omega)
      rw [e1] at hcj
      rw [hcj]
      have hzi : zs.getD i 0 = zs[i]'(by omega) := by simp [List.getD, List.getElem?_eq_getElem (show i < zs.length by omega)]
      have hr := hwf (zs[i]'(by omega)) (List.getElem_mem _)
      rw [hzi]
      simp only [u64s, List.map_map, List.getElem?_map, List.getElem?_take, hi, if_true, List.getElem?_eq_getElem (show i < zs.length by omega), Option.map_some, Function.comp_apply]
      congr 2
      omega
    · intro y hy
      simp only [List.mem_map] at hy
      obtain ⟨n, hn, rfl⟩ := hy
      have := hwf n (List.mem_of_mem_take hn)
      omega

/-- what is known of a type Loss -/
structure LossTy (P : Program) (tl ti tk tu : TypeId) : Prop where
  str : ∃ fs : Array Field, P.underlying tl = some (.struct fs) ∧ fs.size = 3 ∧ (fs[0]?).map (fun f => (f.type, f.offset)) = some (tk, 0) ∧ (fs[1]?).map (fun f => (f.type, f.offset)) = some (ti, 1) ∧ (fs[2]?).map (fun f => (f.type, f.offset)) = some (ti, 2)
  ints : P.underlying ti = some (.int .i64)
  keep : P.underlying tk = some (.slice tu)
  u64 : P.underlying tu = some (.int .u64)
  one : P.cellsOf tu = 1
  ci : P.cellsOf ti = 1
  ck : P.cellsOf tk = 1
  cl : P.cellsOf tl = 3

theorem map_some_field {fs : Array Field} {j : Nat} {t : TypeId} {o : Nat} (h : (fs[j]?).map (fun f => (f.type, f.offset)) = some (t, o)) : ∃ f, fs[j]? = some f ∧ f.type = t ∧ f.offset = o := by
  cases hf : fs[j]? with
  | none => rw [hf] at h; cases h
  | some f =>
    rw [hf] at h
    simp only [Option.map_some, Option.some.injEq, Prod.mk.injEq] at h
    exact ⟨f, rfl, h.1, h.2⟩

/-- a loss's three cells -/
theorem open_loss_at {tl ti tk tu : TypeId} (L : LossTy P tl ti tk tu) {fuel : Nat} {cs : List Value} {x : DataW H × List MemPlace} (h : DataW.trod enc P W 0 (fun _ => true) true fuel tl cs = some x) :
    ∃ (la : Option Addr) (lc : Nat) (l : Loss), cs = [.slice la l.keep.length lc, .int .i64 l.torn, .int .i64 l.off] ∧ Sl W la l.keep.length lc (u64s l.keep) ∧ l.ok ∧ (l.keep.length = 0 ∨ ∃ ds elems spare, x.1 = .agg ds ∧ DataW.slice elems spare ∈ ds ∧ elems.length = l.keep.length) := by
  obtain ⟨fs, hs, hn, h0, h1, h2⟩ := L.str
  obtain ⟨ys, n, _, hx, hcl, hyl, hf⟩ := DataW.trod_struct hs h
  rw [L.cl] at hcl
  obtain ⟨f0, e0, t0, o0⟩ := map_some_field h0
  obtain ⟨f1, e1, t1, o1⟩ := map_some_field h1
  obtain ⟨f2, e2, t2, o2⟩ := map_some_field h2
  have g0 := hf 0 f0 e0
  have g1 := hf 1 f1 e1
  have g2 := hf 2 f2 e2
  rw [t0, o0, L.ck] at g0
  rw [t1, o1, L.ci] at g1
  rw [t2, o2, L.ci] at g2
  match cs, hcl with
  | [c0, c1, c2], _ =>
    have y0 : ys[0]? = some (ys[0]'(by omega)) := List.getElem?_eq_getElem _
    have y1 : ys[1]? = some (ys[1]'(by omega)) := List.getElem?_eq_getElem _
    have y2 : ys[2]? = some (ys[2]'(by omega)) := List.getElem?_eq_getElem _
    rw [y0] at g0
    rw [y1] at g1
    rw [y2] at g2
    obtain ⟨la, lc, l, hv, hsl, hle, hd⟩ := open_u64s_at L.keep L.u64 L.one (by simpa using g0)
    obtain ⟨z1, hz1, _, w1⟩ := DataW.trod_int L.ints (by simpa using g1)
    obtain ⟨z2, hz2, _, w2⟩ := DataW.trod_int L.ints (by simpa using g2)
    simp at hz1 hz2
    subst hv hz1 hz2
    refine ⟨la, lc, ⟨l, z1, z2⟩, rfl, hsl, ⟨wf_int w1, wf_int w2, hle⟩, ?_⟩
    rcases hd with hd | ⟨elems, spare, hd1, hd2⟩
    · exact .inl hd
    · exact .inr ⟨_, elems, spare, by rw [hx], List.mem_map.2 ⟨_, List.mem_of_getElem? y0, hd1⟩, hd2⟩

/-- what is known of a type Step -/
structure StepTy (P : Program) (ts ti t8 tb tl : TypeId) : Prop where
  str : ∃ fs : Array Field, P.underlying ts = some (.struct fs) ∧ fs.size = 6 ∧ (fs[0]?).map (fun f => (f.type, f.offset)) = some (ti, 0) ∧ (fs[1]?).map (fun f => (f.type, f.offset)) = some (ti, 1) ∧ (fs[2]?).map (fun f => (f.type, f.offset)) = some (ti, 2) ∧
    (fs[3]?).map (fun f => (f.type, f.offset)) = some (t8, 3) ∧ (fs[4]?).map (fun f => (f.type, f.offset)) = some (tb, 4) ∧ (fs[5]?).map (fun f => (f.type, f.offset)) = some (tl, 5)
  ints : P.underlying ti = some (.int .i64)
  u8 : P.underlying t8 = some (.int .u8)
  bytes : P.underlying tb = some (.slice t8)
  ci : P.cellsOf ti = 1
  c8 : P.cellsOf t8 = 1
  cb : P.cellsOf tb = 1
  cs : P.cellsOf ts = 8

theorem open_step_at {ts ti t8 tb tl tk tu : TypeId} (T : StepTy P ts ti t8 tb tl) (L : LossTy P tl ti tk tu) {fuel : Nat} {cs : List Value} {x : DataW H × List MemPlace} (h : DataW.trod enc P W 0 (fun _ => true) true fuel ts cs = some x) :
    ∃ S : StepV, cs = S.cells ∧ S.Ok W ∧ (S.l.keep.length = 0 ∨ ∃ ds ds' elems spare, x.1 = .agg ds ∧ DataW.agg ds' ∈ ds ∧ DataW.slice elems spare ∈ ds' ∧ elems.length = S.l.keep.length) := by
  obtain ⟨fs, hs, hn, h0, h1, h2, h3, h4, h5⟩ := T.str
  obtain ⟨ys, n, _, hx, hcl, hyl, hf⟩ := DataW.trod_struct hs h
  rw [T.cs] at hcl
  obtain ⟨f0, e0, t0, o0⟩ := map_some_field h0
  obtain ⟨f1, e1, t1, o1⟩ := map_some_field h1
  obtain ⟨f2, e2, t2, o2⟩ := map_some_field h2
  obtain ⟨f3, e3, t3, o3⟩ := map_some_field h3
  obtain ⟨f4, e4, t4, o4⟩ := map_some_field h4
  obtain ⟨f5, e5, t5, o5⟩ := map_some_field h5
  have g0 := hf 0 f0 e0
  have g1 := hf 1 f1 e1
  have g2 := hf 2 f2 e2
  have g3 := hf 3 f3 e3
  have g4 := hf 4 f4 e4
  have g5 := hf 5 f5 e5
  rw [t0, o0, T.ci] at g0
  rw [t1, o1, T.ci] at g1
  rw [t2, o2, T.ci] at g2
  rw [t3, o3, T.c8] at g3
  rw [t4, o4, T.cb] at g4
  rw [t5, o5, L.cl] at g5
  match cs, hcl with
  | [c0, c1, c2, c3, c4, c5, c6, c7], _ =>
    have y0 : ys[0]? = some (ys[0]'(by omega)) := List.getElem?_eq_getElem _
    have y1 : ys[1]? = some (ys[1]'(by omega)) := List.getElem?_eq_getElem _
    have y2 : ys[2]? = some (ys[2]'(by omega)) := List.getElem?_eq_getElem _
    have y3 : ys[3]? = some (ys[3]'(by omega)) := List.getElem?_eq_getElem _
    have y4 : ys[4]? = some (ys[4]'(by omega)) := List.getElem?_eq_getElem _
    have y5 : ys[5]? = some (ys[5]'(by omega)) := List.getElem?_eq_getElem _
    rw [y0] at g0
    rw [y1] at g1
    rw [y2] at g2
    rw [y3] at g3
    rw [y4] at g4
    rw [y5] at g5
    obtain ⟨z0, hz0, _, _⟩ := DataW.trod_int T.ints (by simpa using g0)
    obtain ⟨z1, hz1, _, _⟩ := DataW.trod_int T.ints (by simpa using g1)
    obtain ⟨z2, hz2, _, w2⟩ := DataW.trod_int T.ints (by simpa using g2)
    obtain ⟨z3, hz3, _, w3⟩ := DataW.trod_int T.u8 (by simpa using g3)
    obtain ⟨ba, bn, bc, b, hv4, hb4, _⟩ := open_bytes_at T.bytes T.u8 T.c8 (by simpa using g4)
    obtain ⟨la, lc, l, hv5, hl5, hok, hd⟩ := open_loss_at L (by simpa using g5)
    simp at hz0 hz1 hz2 hz3 hv5
    obtain ⟨rfl, rfl, rfl⟩ := hv5
    subst hz0 hz1 hz2 hz3 hv4
    have hr : 0 ≤ z3 ∧ z3 ≤ 255 := by simpa [Lit.wf, IntKind.min, IntKind.max, IntKind.signed, IntKind.bits] using w3
    refine ⟨⟨z0, z1, z2, UInt8.ofNat z3.toNat, ba, bn, bc, b, la, lc, l⟩, ?_, ⟨wf_int w2, hb4, hl5, hok⟩, ?_⟩
    · have e3 : ((UInt8.ofNat z3.toNat).toNat : Int) = z3 := by rw [UInt8.toNat_ofNat']; omega
      unfold StepV.cells
      rw [e3]
    · rcases hd with hd | ⟨ds, elems, spare, hd1, hd2, hd3⟩
      · exact .inl hd
      · exact .inr ⟨_, ds, elems, spare, by rw [hx], List.mem_map.2 ⟨_, List.mem_of_getElem? y5, hd1⟩, hd2, hd3⟩

/-- a script that came in -/
theorem open_steps {t ts ti t8 tb tl tk tu : TypeId} (T : StepTy P ts ti t8 tb tl) (L : LossTy P tl ti tk tu) (ht : P.underlying t = some (.slice ts)) {fuel : Nat} {cs : List Value} {x : DataW H × List MemPlace} (size : DataW H → Nat)
    (hsize : ∀ (ds ds' : List (DataW H)) elems spare, DataW.agg ds' ∈ ds → DataW.slice elems spare ∈ ds' → elems.length ≤ size (.agg ds)) (h : DataW.trod enc P W 0 (fun _ => true) true fuel t cs = some x) :
    ∃ a n c, cs = [.slice a n c] ∧ n ≤ c ∧ c ≤ 9223372036854775807 ∧ ((n = 0 ∧ x.1 = .nil) ∨ ∃ (D : Nat → DataW H) (sp : List (DataW H)), x.1 = .slice ((List.range n).map D) sp ∧
      ∀ bulk, (∀ i, i < n → size (D i) ≤ bulk) → ScriptS W a n bulk) := by
  rcases open_slice ht h with ⟨rfl, rfl⟩ | ⟨a, len, cap, m, n, D, Pl, rfl, _, hl, hm, hmm, rfl, hel⟩
  · exact ⟨none, 0, 0, rfl, Nat.le_refl _, by omega, .inl ⟨rfl, rfl⟩⟩
  · refine ⟨some a, len, cap, rfl, hl, by unfold maxLen at hm; exact hm, .inr ⟨D, _, rfl, fun bulk hbulk i hi' => ?_⟩⟩
    have hmi : i < m := by rw [hmm]; simp only [if_true]; omega
    obtain ⟨cs', hc, ht'⟩ := hel i hmi
    rw [T.cs] at hc
    obtain ⟨S, hS, hok, hd⟩ := open_step_at T L ht'
    obtain ⟨_, hcl, hat⟩ := World.cells?_some hc
    have hspot : a.spot = none := by
      obtain ⟨cs0, hc0, _⟩ := hel 0 (by omega)
      rw [T.cs] at hc0
      obtain ⟨_, hcl0, hat0⟩ := World.cells?_some hc0
      have h0 := hat0 0 (by omega)
      rw [List.getElem?_eq_getElem (by omega)] at h0
      simpa [Addr.add] using World.cell?_spot h0
    have ea : ∀ j, (a.add (i * 8)).add j = ⟨a.block, a.off + i * 8 + j, none⟩ := by
      intro j
      cases a; simp only at hspot; subst hspot
      rw [Addr.add_lit, Addr.add_lit]
    have hcell : ∀ j, j < 8 → W.cell? ⟨a.block, a.off + i * 8 + j, none⟩ = S.cells[j]? := fun j hj => by
      rw [← ea, hat j hj, hS]
    refine ⟨a.block, a.off, S, by cases a; simp only at hspot; subst hspot; rfl, World.block_lt_of_cell? W ⟨a.block, a.off + i * 8 + 0, none⟩ (hcell 0 (by omega)), hcell, hok, ?_⟩
    rcases hd with h0 | ⟨ds, ds', elems, spare, d1, d2, d3, d4⟩
    · omega
    · have h1 := hsize ds ds' elems spare d2 d3
      have h2 := hbulk i hi'
      simp only at d1
      rw [d1] at h2
      omega
end
end Go.Le
