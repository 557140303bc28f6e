/-
  SectorsExact: for every n, image and script, of bulk at most 1048576, the law says true: every answer of two disks in turns is the document's, what is handed in is as it was, and what is handed out is new memory; and it turns nothing that came in.
  Conditions: none beyond the row's own.
-/
import Derived.Test.YtpdppacafkdgdaaEx8
import Derived.Test.YtpdppacafkdgdaaDeepS
import Derived.Test.YtpdppacafkdgdaaRow
import Derived.Test.YtpdppacafkdgdaaRows
import Derived.Test.YtpdppacafkdgdaaBulk
import Derived.WalkKit
import Derived.ProofKit
import Derived.OpenShut
import Derived.Deep.DeepHandedRow
import Derived.Lib.LaidTab
set_option linter.unusedVariables false
set_option linter.unusedSimpArgs false
namespace Go.Proofs.Ytpdppacafkdgdaa.sectorsExact
open Go.ChangeShapes Go.WideShapes Go.ChangeAt Go.RowKit Go.Le Go.Eng
theorem own : ownKnob Try.prog.godebug = none := by kernel_rfl
theorem laidOut : laidOutB Try.prog = true := by kernel_rfl
noncomputable def laidWorld (os : Os) : World := World.holding Try.prog os ⟨#[], #[], []⟩
theorem sizedBulk {H : Type} : SizedD (Rows.uptoBulk (H := H)) where
  len e s := by have := bulk.all_length e; simp only [Rows.uptoBulk]; omega
  elem e s x hx := by have := bulk.mem_all hx; simp only [Rows.uptoBulk]; omega
  part ps x hx := by have := bulk.mem_all hx; simp only [Rows.uptoBulk]; omega
/-- a law's contract, asked where nothing is made yet -/
theorem con_law {Pg : Program} {f : FuncId} {xs : List SV} {args : Array Value} {W : World} {post : SV → Hp → List Ck → Prop} (h : Con Pg [] f xs (fun _ => none) [] post) (ha : ∀ ρ, (denL ρ xs).toArray = args) (hok : ∀ ρ, okL ρ W (fun _ => none) xs)
    (b : Value) (hp : ∀ x P' H', post x P' H' → x = .raw b) : Calls Pg f args W fun e W' => e = .returned b ∧ Fr W.heap.size [] W W' := by
  have h1 := h.2 (fun _ => none) W W emp ⟨(Mem.start W).eq (by simp only [star]; show emp = Eng.own (fun _ => none) * (emp * emp); rw [sep_emp]; show emp = emp * emp; rw [sep_emp]), trivial⟩ (hok _)
  rw [ha] at h1
  refine h1.mono ?_
  rintro e W' ⟨ρ', x, P', H', -, rfl, -, hM, -, hq⟩
  rw [hp _ _ _ hq]
  exact ⟨rfl, hM.mem.base⟩
theorem wfI {n : Int} (h : (Lit.int .i64 n).wf = true) : -9223372036854775808 ≤ n ∧ n ≤ 9223372036854775807 := by
  simpa [Lit.wf, IntKind.min, IntKind.max, IntKind.signed, IntKind.bits] using h
theorem wfU8 {n : Int} (h : (Lit.int .u8 n).wf = true) : ∃ x : UInt8, n = (x.toNat : Int) := by
  have hr : 0 ≤ n ∧ n ≤ 255 := by simpa [Lit.wf, IntKind.min, IntKind.max, IntKind.signed, IntKind.bits] using h
  exact ⟨UInt8.ofNat n.toNat, by rw [UInt8.toNat_ofNat']; omega⟩
theorem wfU64 {n : Int} (h : (Lit.int .u64 n).wf = true) : ∃ x : Nat, n = (x : Int) ∧ x < 18446744073709551616 := by
  have hr : 0 ≤ n ∧ n ≤ 18446744073709551615 := by simpa [Lit.wf, IntKind.min, IntKind.max, IntKind.signed, IntKind.bits] using h
  exact ⟨n.toNat, by omega, by omega⟩
def shStep : List Sh := [.int .i64, .int .i64, .int .i64, .int .u8, .bytes, .sl 1 [.int .u64], .int .i64, .int .i64]
theorem sh_int : shOf 40 Try.prog 3 = some [.int .i64] := by kernel_rfl
theorem sh_bytes : shOf 40 Try.prog 34 = some [.bytes] := by kernel_rfl
theorem sh_steps : shOf 40 Try.prog 47 = some [.sl 8 shStep] := by kernel_rfl
theorem fit_step {l : List Cell} (h : fitsL shStep l) (hm : cellsLe 1048576 l) : ∃ s : Sp8, l = stEnc s ∧ s.ok := by
  simp only [shStep, fitsL, Sh.fits] at h
  obtain ⟨_, _, rfl, ⟨a, rfl, ha⟩, _, _, rfl, ⟨b, rfl, hb⟩, _, _, rfl, ⟨i, rfl, hi⟩, _, _, rfl, ⟨f, rfl, hf⟩, _, _, rfl, ⟨ba, bc, bl, rfl⟩, _, _, rfl, ⟨ka, kc, kl, rfl, hk⟩, _, _, rfl, ⟨c, rfl, hc⟩, _, _, rfl, ⟨d, rfl, hd⟩, rfl⟩ := h
  obtain ⟨y, rfl⟩ := wfU8 hf
  obtain ⟨ks, rfl, hks⟩ := list_map_of (f := kEnc) (p := fun x => x < 18446744073709551616) (l := kl) fun y hy => by
    obtain ⟨_, _, rfl, ⟨n, rfl, hn⟩, rfl⟩ := hk y hy
    obtain ⟨x, rfl, hx⟩ := wfU64 hn
    exact ⟨x, rfl, hx⟩
  simp only [cellsLe, Cell.le, List.length_map] at hm
  exact ⟨⟨a, b, i, y, ba, bc, bl, ka, kc, ⟨ks, c, d⟩⟩, rfl, ⟨wfI ha, wfI hi, by have := hm.2.2.2.2.1; show bl.length ≤ _; omega, ⟨wfI hc, wfI hd, hks⟩, by have := hm.2.2.2.2.2.1.1; show ks.length ≤ _; omega⟩⟩
set_option maxRecDepth 100000 in
theorem contract (H : Type) (enc : TypeId × Value → H) (W : World) (base : Nat) (args : Array Value) (ds gs : List (DataW H)) (before : List MemPlace)
    (hval : ∀ (j : Nat) t v, Try.f8.params[j]? = some t → args[j]? = some v → Value.okWide Try.prog W .any base t v)
    (hW : DataW.Whole enc Try.prog Try.f8.params.toList Rows.sectorsExactSpec.vars false W args.toList ds gs before) (hk : Rows.uptoSmall H (ds ++ gs) = true) :
    Calls Try.prog 8 args W fun e W' => ∃ v, e = .returned v ∧ Rows.sectorsExactSpec.post enc Try.prog Try.f8 false true false false W args v W' := by
  have hW' := hW
  obtain ⟨p, q, hA0, hV, rfl, hfz, hnd⟩ := hW
  have hA : DataW.TrodAll enc Try.prog W 0 (fun _ => true) true Try.f8.params.toList args.toList ds p := hA0
  rw [Try.params8] at hA hval
  obtain ⟨v0, vs0, d0, ds0, p0, q0, hargs, rfl, rfl, h0, r0⟩ := trodAll_cons hA
  obtain ⟨v1, vs1, d1, ds1, p1, q1, rfl, rfl, rfl, h1, r1⟩ := trodAll_cons r0
  obtain ⟨v2, vs2, d2, ds2, p2, q2, rfl, rfl, rfl, h2, r2⟩ := trodAll_cons r1
  obtain ⟨rfl, rfl, rfl⟩ := trodAll_nil r2
  obtain rfl : args = #[v0, v1, v2] := by cases args; simp_all
  obtain ⟨n, rfl, rfl, rfl, w0⟩ := open_int Try.underlying3 (hval 0 3 v0 rfl rfl) h0
  have hn := wf_int w0
  obtain ⟨y1, z1, u1, rfl⟩ := okWide_slice Try.underlying34 (hval 1 34 v1 rfl rfl)
  obtain ⟨y2, z2, u2, rfl⟩ := okWide_slice Try.underlying47 (hval 2 47 v2 rfl rfl)
  obtain ⟨f1, g1⟩ := h1
  obtain ⟨f2, g2⟩ := h2
  obtain ⟨l1, e1, ok1, fi1, le1⟩ := (opnS Rows.uptoBulk sizedBulk 40 _ _ sh_bytes _ _ _ g1).mono (bulk.of_mem (d := d1) (by simp) hk)
  obtain ⟨l2, e2, ok2, fi2, le2⟩ := (opnS Rows.uptoBulk sizedBulk 40 _ _ sh_steps _ _ _ g2).mono (bulk.of_mem (d := d2) (by simp) hk)
  simp only [fitsL, Sh.fits] at fi1 fi2
  obtain ⟨_, _, rfl, ⟨ia, ic, img, rfl⟩, rfl⟩ := fi1
  obtain ⟨_, _, rfl, ⟨sa, sc, sl, rfl, hs⟩, rfl⟩ := fi2
  simp only [cellsLe, Cell.le, and_true] at le1 le2
  have hsl := cellsLeR_iff.1 le2.2
  obtain ⟨S, rfl, hS⟩ := list_map_of (f := stEnc) (p := Sp8.ok) (l := sl) fun y hy => fit_step (hs y hy) (hsl y hy)
  simp only [Value.cells, List.map_cons, List.map_nil, Cell.den, List.length_map, List.cons.injEq, and_true] at e1 e2
  rw [e1, e2] at hW' ⊢
  simp only [cellsO, and_true] at ok1 ok2
  refine (con_law (exact8_con (fun _ => none) n hn.1 hn.2 ia ic img (by omega) sa sc S hS) (fun ρ => by simp only [denL, SV.den, List.length_map]) (fun ρ => ?_) (.bool true) (fun _ _ _ h => h)).mono fun e W' ⟨he, hf⟩ => ⟨_, he, ?_⟩
  · have a1 := Cell.sv_ok (ρ := ρ) ok1
    have a2 := Cell.sv_ok (ρ := ρ) ok2
    exact ⟨by simp only [SV.ok], a1, a2, trivial⟩
  · refine law_post (tb := 4) laidOut (by rw [Try.params8]; decide +kernel) hW' rfl (fun es hes => ?_) (by kernel_rfl) Try.underlying4 hf
    match es, hes with
    | [_, _, _], _ => rfl
abbrev wargs : Array Value := #[.int .i64 0, .slice none 0 0, .slice none 0 0]
theorem laid_met (os : Os) : laidMet Try.prog Rows.sectorsExactUptoRow.laid ((laidWorld os).forCall (fun _ _ => 0) ⟨#[], wargs, []⟩).memory :=
  laidMet_of_run' 8 (by kernel_rfl) (by kernel_rfl)
theorem reads (os : Os) {H : Type} (enc : TypeId × Value → H) : ∃ places, DataW.whole enc Try.prog ((laidWorld os).forCall (fun _ _ => 0) ⟨#[], wargs, []⟩).memory Try.f8.params.toList Rows.sectorsExactSpec.vars false wargs.toList 8 = some ([.lit (.int .i64 0), .nil, .nil], [], places) :=
  ⟨[], by kernel_rfl⟩
set_option maxRecDepth 100000 in
theorem liftedUpto (os : Os) (started : os.Started) (H : Type) (enc : TypeId × Value → H) (F : Stop.Interp) :
    ReturnsInHanded {} Try.checked os 8 .any ((Rows.OpenSpec.upto Rows.sectorsExactSpec).preRow enc Try.prog Try.f8 Rows.sectorsExactUptoRow.domain false Rows.sectorsExactUptoRow.laid) (((Rows.OpenSpec.upto Rows.sectorsExactSpec).at F).post enc Try.prog Try.f8 false true false false) := by
  obtain ⟨places, hx⟩ := reads os enc
  refine returnsInHanded_of_row (C := Try.checked) (s := Rows.OpenSpec.upto Rows.sectorsExactSpec) own started (by kernel_rfl) Try.func8
    (witness_row_at (enc := enc) (C := Try.checked) false (laidWorld os) wargs rfl (by kernel_rfl) (by kernel_rfl) (by kernel_rfl)
      (OpenSpec.preRow_of_cond 8 hx (by kernel_rfl) (fun k hk => by cases hk; kernel_rfl) (by kernel_rfl) (laid_met os))) ?_
  intro W base args ds gs before hval hW _ hcond _ hL _ _
  exact contract H enc W base args ds gs before hval hW (hcond _ rfl)
theorem provedUpto : Rows.SectorsExactUptoSaid :=
  OpenClaim.holds_of_cond 8 Try.f8 rfl rfl rfl rfl rfl rfl rfl ⟨rfl, rfl, rfl, rfl, rfl⟩ rfl rfl rfl rfl rfl (by kernel_rfl) Try.func8 (by kernel_rfl)
    (of_decide_eq_true (by kernel_rfl)) (by unfold Func.isWrapper; first | (rw [if_pos (by decide +kernel)]; kernel_rfl) | (rw [if_neg (by decide +kernel)]; exact ⟨rfl, rfl⟩))
    (fun os started H enc _ F => by rw [OpenClaim.pre_eq_preRow]; exact liftedUpto os started H enc F)
#print axioms provedUpto
end Go.Proofs.Ytpdppacafkdgdaa.sectorsExact
