/- A Life that came in, opened; how a contract of the engine becomes a law's answer. -/
import Derived.Test.YtpaebopmppbjbaaRow
import Derived.Test.YtpaebopmppbjbaaEn17
import Derived.Deep.Slices
import Derived.Deep.Fields
set_option linter.unusedVariables false
set_option linter.unusedSimpArgs false
namespace Go.Le
open Go Go.RowKit Go.ChangeShapes Go.WideShapes Go.Deep Go.Eng
section
variable {H : Type} {enc : TypeId × Value → H} {P : Program} {W : World}
/-- what is known of a type Life -/
structure LifeTy (P : Program) (tl ti tk te : TypeId) : Prop where
  str : ∃ fs : Array Field, P.underlying tl = some (.struct fs) ∧ fs.size = 3 ∧ (fs[0]?).map (fun f => (f.type, f.offset)) = some (ti, 0) ∧ (fs[1]?).map (fun f => (f.type, f.offset)) = some (ti, 1) ∧ (fs[2]?).map (fun f => (f.type, f.offset)) = some (tk, 2)
  ints : P.underlying ti = some (.int .i64)
  turns : P.underlying tk = some (.slice te)
  ci : P.cellsOf ti = 1
  ck : P.cellsOf tk = 1
  cl : P.cellsOf tl = 3
theorem map_some_field' {fs : Array Field} {j : Nat} {t : TypeId} {o : Nat} (h : (fs[j]?).map (fun f => (f.type, f.offset)) = some (t, o)) : ∃ f, fs[j]? = some f ∧ f.type = t ∧ f.offset = o := by
  cases hf : fs[j]? with
  | none => rw [hf] at h; cases h
  | some f =>
    rw [hf] at h
    simp only [Option.map_some, Option.some.injEq, Prod.mk.injEq] at h
    exact ⟨f, rfl, h.1, h.2⟩
/-- a life's three cells -/
theorem open_life {tl ti tk te : TypeId} (L : LifeTy P tl ti tk te) {fuel : Nat} {cs : List Value} {x : DataW H × List MemPlace} (h : DataW.trod enc P W 0 (fun _ => true) true fuel tl cs = some x) :
    ∃ (a b : Int) (ta : Option Addr) (tn tc : Nat), cs = [.int .i64 a, .int .i64 b, .slice ta tn tc] ∧ (-9223372036854775808 ≤ a ∧ a ≤ 9223372036854775807) ∧ (-9223372036854775808 ≤ b ∧ b ≤ 9223372036854775807) := by
  obtain ⟨fs, hs, hn, h0, h1, h2⟩ := L.str
  obtain ⟨ys, n, _, hx, hcl, hyl, hf⟩ := DataW.trod_struct hs h
  rw [L.cl] at hcl
  obtain ⟨f0, e0, t0, o0⟩ := map_some_field' h0
  obtain ⟨f1, e1, t1, o1⟩ := map_some_field' h1
  obtain ⟨f2, e2, t2, o2⟩ := map_some_field' h2
  have g0 := hf 0 f0 e0
  have g1 := hf 1 f1 e1
  have g2 := hf 2 f2 e2
  rw [t0, o0, L.ci] at g0
  rw [t1, o1, L.ci] at g1
  rw [t2, o2, L.ck] at g2
  match cs, hcl with
  | [c0, c1, c2], _ =>
    have y0 : ys[0]? = some (ys[0]'(by omega)) := List.getElem?_eq_getElem _
    have y1 : ys[1]? = some (ys[1]'(by omega)) := List.getElem?_eq_getElem _
    have y2 : ys[2]? = some (ys[2]'(by omega)) := List.getElem?_eq_getElem _
    rw [y0] at g0
    rw [y1] at g1
    rw [y2] at g2
    obtain ⟨z0, hz0, _, w0⟩ := DataW.trod_int L.ints (by simpa using g0)
    obtain ⟨z1, hz1, _, w1⟩ := DataW.trod_int L.ints (by simpa using g1)
    simp at hz0 hz1
    subst hz0 hz1
    have hsl : ∃ (ta : Option Addr) (tn tc : Nat), [c2] = [.slice ta tn tc] := by
      rcases open_slice L.turns (by simpa using g2) with ⟨h, -⟩ | ⟨a, len, cap, m, n, D, Pl, h, -⟩
      · exact ⟨_, _, _, h⟩
      · exact ⟨_, _, _, h⟩
    obtain ⟨ta, tn, tc, hsl⟩ := hsl
    simp only [List.cons.injEq, and_true] at hsl
    subst hsl
    exact ⟨z0, z1, ta, tn, tc, rfl, wf_int w0, wf_int w1⟩
end
/-- what came in and stays, as the engine reads it -/
theorem Sl.rd {W : World} {a : Option Addr} {n c : Nat} {l : List UInt8} (h : Sl W a n c (byts l)) : Rd W (fun _ => none) a l.length c 1 (byts l) := by
  have hl := h.len
  rw [byts_length] at hl
  subst hl
  refine ⟨by rw [byts_length]; omega, h.le, h.cap, h.nil, h.spot, ?_, fun p hp => .inl fun i v hv => ?_⟩
  · intro v hv
    obtain ⟨x, -, rfl⟩ := List.mem_map.1 hv
    rfl
  · have hi : i < (byts l).length := (List.getElem?_eq_some_iff.1 hv).1
    rw [byts_length] at hi
    rw [h.cell i hi p hp, hv]
/-- a law's contract, asked where nothing is made yet -/
theorem con_law {Pg : Program} {f : FuncId} {xs : List SV} {args : Array Value} {W : World} {post : SV → Hp → List Ck → Prop} (h : Con Pg [] f xs (fun _ => none) [] post) (ha : ∀ ρ, (denL ρ xs).toArray = args) (hok : ∀ ρ, okL ρ W (fun _ => none) xs)
    (b : Value) (hp : ∀ x P' H', post x P' H' → x = .raw b) : Calls Pg f args W fun e W' => e = .returned b ∧ Fr W.heap.size [] W W' := by
  have h1 := h.2 (fun _ => none) W W emp ⟨(Mem.start W).eq (by simp only [star]; show emp = own (fun _ => none) * (emp * emp); rw [sep_emp]; show emp = emp * emp; rw [sep_emp]), trivial⟩ (hok _)
  rw [ha] at h1
  refine h1.mono ?_
  rintro e W' ⟨ρ', x, P', H', -, rfl, -, hM, -, hq⟩
  rw [hp _ _ _ hq]
  exact ⟨rfl, hM.mem.base⟩
end Go.Le
