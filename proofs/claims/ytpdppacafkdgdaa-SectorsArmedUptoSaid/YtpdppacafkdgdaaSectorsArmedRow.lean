/-
  SectorsArmed: for every script and loss, of bulk at most 1048576, an armed device does what one does that is told to crash there, and the law says true; it turns nothing that came in.
  Conditions: none beyond the row's own.
-/
import Derived.Test.YtpdppacafkdgdaaArm
import Derived.Test.YtpdppacafkdgdaaStepsTy
import Derived.Test.YtpdppacafkdgdaaRow
import Derived.Test.YtpdppacafkdgdaaBulk
import Derived.Test.YtpdppacafkdgdaaRows
import Derived.WalkKit
import Derived.ProofKit
import Derived.OpenShut
import Derived.Deep.DeepHandedRow
import Derived.Lib.LaidTab
set_option linter.unusedVariables false
set_option linter.unusedSimpArgs false
namespace Go.Proofs.Ytpdppacafkdgdaa.sectorsArmed
open Go.ChangeShapes Go.WideShapes Go.ChangeAt Go.RowKit Go.Le
set_option linter.unusedVariables false
theorem own : ownKnob Try.prog.godebug = none := by kernel_rfl
theorem laidOut : laidOutB Try.prog = true := by kernel_rfl

noncomputable def laidWorld (os : Os) : World := World.holding Try.prog os ⟨#[], #[], []⟩
set_option maxRecDepth 100000 in
theorem contract (H : Type) (enc : TypeId × Value → H) (W : World) (base : Nat) (args : Array Value) (ds gs : List (DataW H)) (before : List MemPlace)
    (hval : ∀ (j : Nat) t v, Try.f6.params[j]? = some t → args[j]? = some v → Value.okWide Try.prog W .any base t v)
    (hW : DataW.Whole enc Try.prog Try.f6.params.toList Rows.sectorsArmedSpec.vars false W args.toList ds gs before) (hk : Rows.uptoSmall H (ds ++ gs) = true) :
    Calls Try.prog 6 args W fun e W' => ∃ v, e = .returned v ∧ Rows.sectorsArmedSpec.post enc Try.prog Try.f6 false true false false W args v W' := by
  have hW' := hW
  obtain ⟨p, q, hA0, hV, rfl, hfz, hnd⟩ := hW
  have hA : DataW.TrodAll enc Try.prog W 0 (fun _ => true) true Try.f6.params.toList args.toList ds p := hA0
  rw [Try.params6] at hA hval
  obtain ⟨v0, vs0, d0, ds0, p0, q0, hargs, rfl, rfl, h0, r0⟩ := trodAll_cons hA
  obtain ⟨v1, vs1, d1, ds1, p1, q1, rfl, rfl, rfl, h1, r1⟩ := trodAll_cons r0
  obtain ⟨v2, vs2, d2, ds2, p2, q2, rfl, rfl, rfl, h2, r2⟩ := trodAll_cons r1
  obtain ⟨rfl, rfl, rfl⟩ := trodAll_nil r2
  obtain rfl : args = #[v0, v1, v2] := by cases args; simp_all
  obtain ⟨f0, g0⟩ := h0
  obtain ⟨y0, z0, u0, rfl⟩ := okWide_slice Try.underlying47 (hval 0 47 v0 rfl rfl)
  obtain ⟨a0, n0, c0, hcs0, hn0, hc0, hd0⟩ := open_steps stepTy lossTy Try.underlying47 Rows.uptoBulk bulk.nested g0
  simp only [Value.cells, List.cons.injEq, and_true] at hcs0
  rw [hcs0]
  rw [hcs0] at hW'
  have s0 : ScriptS W a0 n0 1048576 := by
    rcases hd0 with ⟨rfl, -⟩ | ⟨D, sp, hx, he⟩
    · intro i hi; omega
    · exact he 1048576 fun i hi => bulk.elem D sp (ds := [d0, _, d2] ++ gs) (by simp only at hx; rw [← hx]; simp) hk i hi
  obtain ⟨a1, rfl, rfl, rfl, w1⟩ := open_int Try.underlying3 (hval 1 3 v1 rfl rfl) h1
  have b1 := wf_int w1
  obtain ⟨f2, g2⟩ := h2
  obtain ⟨fs2, hfs2, -⟩ := lossTy.str
  obtain ⟨cs2, rfl, -⟩ := okWide_struct hfs2 (hval 2 38 v2 rfl rfl)
  obtain ⟨la2, lc2, l2, hcs2, s2, hok2, hd2⟩ := open_loss_at lossTy g2
  obtain rfl : cs2 = #[.slice la2 l2.keep.length lc2, .int .i64 l2.torn, .int .i64 l2.off] := by
    rw [← Array.toList_inj]
    simpa [Value.cells] using hcs2
  have hb2 : l2.keep.length ≤ 1048576 := by
    rcases hd2 with h0 | ⟨es, elems, spare, x1, x2, x3⟩
    · omega
    · have h1 := bulk.field es elems spare x2
      have h2 := bulk.of_mem (ds := [d0, _, d2] ++ gs) (d := d2) (by simp) hk
      simp only at x1
      rw [x1] at h2
      omega
  refine (armed_any W a0 n0 c0 hn0 hc0 s0 a1 b1.1 b1.2 la2 lc2 l2 s2 hok2 hb2).mono fun e W' ⟨he, hf⟩ => ⟨_, he, ?_⟩
  refine law_post (tb := 4) laidOut (by rw [Try.params6]; decide +kernel) hW' rfl (fun es hes => ?_) (by kernel_rfl) Try.underlying4 hf
  match es, hes with
  | [_, _, _], _ => rfl

theorem laid_met (os : Os) : laidMet Try.prog Rows.sectorsArmedUptoRow.laid ((laidWorld os).forCall (fun _ _ => 0) ⟨#[], #[.slice none 0 0, .int .i64 0, .agg #[.slice none 0 0, .int .i64 0, .int .i64 0]], []⟩).memory :=
  laidMet_of_run' 8 (by kernel_rfl) (by kernel_rfl)
theorem reads (os : Os) {H : Type} (enc : TypeId × Value → H) : ∃ places, DataW.whole enc Try.prog ((laidWorld os).forCall (fun _ _ => 0) ⟨#[], #[.slice none 0 0, .int .i64 0, .agg #[.slice none 0 0, .int .i64 0, .int .i64 0]], []⟩).memory Try.f6.params.toList Rows.sectorsArmedSpec.vars false (#[.slice none 0 0, .int .i64 0, .agg #[.slice none 0 0, .int .i64 0, .int .i64 0]] : Array Value).toList 8 = some ([.nil, .lit (.int .i64 0), .agg [.nil, .lit (.int .i64 0), .lit (.int .i64 0)]], [], places) :=
  ⟨[], by kernel_rfl⟩

set_option maxRecDepth 100000 in
theorem liftedUpto (os : Os) (started : os.Started) (H : Type) (enc : TypeId × Value → H) (F : Stop.Interp) :
    ReturnsInHanded {} Try.checked os 6 .any ((Rows.OpenSpec.upto Rows.sectorsArmedSpec).preRow enc Try.prog Try.f6 Rows.sectorsArmedUptoRow.domain false Rows.sectorsArmedUptoRow.laid) (((Rows.OpenSpec.upto Rows.sectorsArmedSpec).at F).post enc Try.prog Try.f6 false true false false) := by
  obtain ⟨places, hx⟩ := reads os enc
  refine returnsInHanded_of_row (C := Try.checked) (s := Rows.OpenSpec.upto Rows.sectorsArmedSpec) own started (by kernel_rfl) Try.func6
    (witness_row_at (enc := enc) (C := Try.checked) false (laidWorld os) #[.slice none 0 0, .int .i64 0, .agg #[.slice none 0 0, .int .i64 0, .int .i64 0]] rfl (by kernel_rfl) (by kernel_rfl) (by kernel_rfl)
      (OpenSpec.preRow_of_cond 8 hx (by kernel_rfl) (fun k hk => by cases hk; kernel_rfl) (by kernel_rfl) (laid_met os))) ?_
  intro W base args ds gs before hval hW _ hcond _ hL _ _
  exact contract H enc W base args ds gs before hval hW (hcond _ rfl)

theorem provedUpto : Rows.SectorsArmedUptoSaid :=
  OpenClaim.holds_of_cond 6 Try.f6 rfl rfl rfl rfl rfl rfl rfl ⟨rfl, rfl, rfl, rfl, rfl⟩ rfl rfl rfl rfl rfl (by kernel_rfl) Try.func6 (by kernel_rfl)
    (of_decide_eq_true (by kernel_rfl)) (by unfold Func.isWrapper; first | (rw [if_pos (by decide +kernel)]; kernel_rfl) | (rw [if_neg (by decide +kernel)]; exact ⟨rfl, rfl⟩))
    (fun os started H enc _ F => by rw [OpenClaim.pre_eq_preRow]; exact liftedUpto os started H enc F)
#print axioms provedUpto
end Go.Proofs.Ytpdppacafkdgdaa.sectorsArmed
