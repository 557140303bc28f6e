/-
  SectorsImage: for two scripts, each of bulk at most 1048576, a device behind Up and Flush and one loaded from its image answer the same to all that follows, and the law says true; it turns nothing that came in.
  Conditions: none beyond the row's own.
-/
import Derived.Test.YtpdppacafkdgdaaImg
import Derived.Test.YtpdppacafkdgdaaStepsTy
import Derived.Test.YtpdppacafkdgdaaRow
import Derived.Test.YtpdppacafkdgdaaBulk
import Derived.Test.YtpdppacafkdgdaaRows
import Derived.WalkKit
import Derived.ProofKit
import Derived.OpenShut
import Derived.Deep.DeepHandedRow
import Derived.Lib.LaidTab
set_option linter.unusedVariables false
set_option linter.unusedSimpArgs false
namespace Go.Proofs.Ytpdppacafkdgdaa.sectorsImage
open Go.ChangeShapes Go.WideShapes Go.ChangeAt Go.RowKit Go.Le
set_option linter.unusedVariables false
theorem own : ownKnob Try.prog.godebug = none := by kernel_rfl
theorem laidOut : laidOutB Try.prog = true := by kernel_rfl

noncomputable def laidWorld (os : Os) : World := World.holding Try.prog os ⟨#[], #[], []⟩
set_option maxRecDepth 100000 in
theorem contract (H : Type) (enc : TypeId × Value → H) (W : World) (base : Nat) (args : Array Value) (ds gs : List (DataW H)) (before : List MemPlace)
    (hval : ∀ (j : Nat) t v, Try.f7.params[j]? = some t → args[j]? = some v → Value.okWide Try.prog W .any base t v)
    (hW : DataW.Whole enc Try.prog Try.f7.params.toList Rows.sectorsImageSpec.vars false W args.toList ds gs before) (hk : Rows.uptoSmall H (ds ++ gs) = true) :
    Calls Try.prog 7 args W fun e W' => ∃ v, e = .returned v ∧ Rows.sectorsImageSpec.post enc Try.prog Try.f7 false true false false W args v W' := by
  have hW' := hW
  obtain ⟨p, q, hA0, hV, rfl, hfz, hnd⟩ := hW
  have hA : DataW.TrodAll enc Try.prog W 0 (fun _ => true) true Try.f7.params.toList args.toList ds p := hA0
  rw [Try.params7] at hA hval
  obtain ⟨v0, vs0, d0, ds0, p0, q0, hargs, rfl, rfl, h0, r0⟩ := trodAll_cons hA
  obtain ⟨v1, vs1, d1, ds1, p1, q1, rfl, rfl, rfl, h1, r1⟩ := trodAll_cons r0
  obtain ⟨rfl, rfl, rfl⟩ := trodAll_nil r1
  obtain rfl : args = #[v0, v1] := by cases args; simp_all
  obtain ⟨f0, g0⟩ := h0
  obtain ⟨y0, z0, u0, rfl⟩ := okWide_slice Try.underlying47 (hval 0 47 v0 rfl rfl)
  obtain ⟨a0, n0, c0, hcs0, hn0, hc0, hd0⟩ := open_steps stepTy lossTy Try.underlying47 Rows.uptoBulk bulk.nested g0
  simp only [Value.cells, List.cons.injEq, and_true] at hcs0
  rw [hcs0]
  rw [hcs0] at hW'
  have s0 : ScriptS W a0 n0 1048576 := by
    rcases hd0 with ⟨rfl, -⟩ | ⟨D, sp, hx, he⟩
    · intro i hi; omega
    · exact he 1048576 fun i hi => bulk.elem D sp (ds := [d0, d1] ++ gs) (by simp only at hx; rw [← hx]; simp) hk i hi
  obtain ⟨f1, g1⟩ := h1
  obtain ⟨y1, z1, u1, rfl⟩ := okWide_slice Try.underlying47 (hval 1 47 v1 rfl rfl)
  obtain ⟨a1, n1, c1, hcs1, hn1, hc1, hd1⟩ := open_steps stepTy lossTy Try.underlying47 Rows.uptoBulk bulk.nested g1
  simp only [Value.cells, List.cons.injEq, and_true] at hcs1
  rw [hcs1]
  rw [hcs1] at hW'
  have s1 : ScriptS W a1 n1 1048576 := by
    rcases hd1 with ⟨rfl, -⟩ | ⟨D, sp, hx, he⟩
    · intro i hi; omega
    · exact he 1048576 fun i hi => bulk.elem D sp (ds := [d0, d1] ++ gs) (by simp only at hx; rw [← hx]; simp) hk i hi
  refine (image_any W a0 a1 n0 c0 n1 c1 hn0 hc0 hn1 hc1 s0 s1).mono fun e W' ⟨he, hf⟩ => ⟨_, he, ?_⟩
  refine law_post (tb := 4) laidOut (by rw [Try.params7]; decide +kernel) hW' rfl (fun es hes => ?_) (by kernel_rfl) Try.underlying4 hf
  match es, hes with
  | [_, _], _ => rfl

theorem laid_met (os : Os) : laidMet Try.prog Rows.sectorsImageUptoRow.laid ((laidWorld os).forCall (fun _ _ => 0) ⟨#[], #[.slice none 0 0, .slice none 0 0], []⟩).memory :=
  laidMet_of_run' 8 (by kernel_rfl) (by kernel_rfl)
theorem reads (os : Os) {H : Type} (enc : TypeId × Value → H) : ∃ places, DataW.whole enc Try.prog ((laidWorld os).forCall (fun _ _ => 0) ⟨#[], #[.slice none 0 0, .slice none 0 0], []⟩).memory Try.f7.params.toList Rows.sectorsImageSpec.vars false (#[.slice none 0 0, .slice none 0 0] : Array Value).toList 8 = some ([.nil, .nil], [], places) :=
  ⟨[], by kernel_rfl⟩

set_option maxRecDepth 100000 in
theorem liftedUpto (os : Os) (started : os.Started) (H : Type) (enc : TypeId × Value → H) (F : Stop.Interp) :
    ReturnsInHanded {} Try.checked os 7 .any ((Rows.OpenSpec.upto Rows.sectorsImageSpec).preRow enc Try.prog Try.f7 Rows.sectorsImageUptoRow.domain false Rows.sectorsImageUptoRow.laid) (((Rows.OpenSpec.upto Rows.sectorsImageSpec).at F).post enc Try.prog Try.f7 false true false false) := by
  obtain ⟨places, hx⟩ := reads os enc
  refine returnsInHanded_of_row (C := Try.checked) (s := Rows.OpenSpec.upto Rows.sectorsImageSpec) own started (by kernel_rfl) Try.func7
    (witness_row_at (enc := enc) (C := Try.checked) false (laidWorld os) #[.slice none 0 0, .slice none 0 0] rfl (by kernel_rfl) (by kernel_rfl) (by kernel_rfl)
      (OpenSpec.preRow_of_cond 8 hx (by kernel_rfl) (fun k hk => by cases hk; kernel_rfl) (by kernel_rfl) (laid_met os))) ?_
  intro W base args ds gs before hval hW _ hcond _ hL _ _
  exact contract H enc W base args ds gs before hval hW (hcond _ rfl)

theorem provedUpto : Rows.SectorsImageUptoSaid :=
  OpenClaim.holds_of_cond 7 Try.f7 rfl rfl rfl rfl rfl rfl rfl ⟨rfl, rfl, rfl, rfl, rfl⟩ rfl rfl rfl rfl rfl (by kernel_rfl) Try.func7 (by kernel_rfl)
    (of_decide_eq_true (by kernel_rfl)) (by unfold Func.isWrapper; first | (rw [if_pos (by decide +kernel)]; kernel_rfl) | (rw [if_neg (by decide +kernel)]; exact ⟨rfl, rfl⟩))
    (fun os started H enc _ F => by rw [OpenClaim.pre_eq_preRow]; exact liftedUpto os started H enc F)
#print axioms provedUpto
end Go.Proofs.Ytpdppacafkdgdaa.sectorsImage
