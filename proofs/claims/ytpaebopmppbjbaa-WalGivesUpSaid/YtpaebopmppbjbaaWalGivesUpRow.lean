/-
  WalGivesUp: Open and Clear of a disk whose log holds anything, with a marker that stands or not, leave what the document says, and the law says so at every input.
  Conditions: none beyond the row's own.
-/
import Derived.Test.YtpaebopmppbjbaaGiv
import Derived.Test.YtpaebopmppbjbaaLife
import Derived.Test.YtpaebopmppbjbaaRow
import Derived.Test.YtpaebopmppbjbaaRows
import Derived.WalkKit
import Derived.ProofKit
import Derived.OpenShut
set_option linter.unusedVariables false
set_option linter.unusedSimpArgs false
namespace Go.Proofs.Ytpaebopmppbjbaa.walGivesUp
open Go.ChangeShapes Go.WideShapes Go.ChangeAt Go.RowKit Go.Le
set_option linter.unusedVariables false
theorem own : ownKnob Try.prog.godebug = none := by kernel_rfl
theorem laidOut : laidOutB Try.prog = true := by kernel_rfl

theorem lifeTy : LifeTy Try.prog 36 3 34 153 :=
  ⟨⟨_, Try.underlying36, by kernel_rfl, by kernel_rfl, by kernel_rfl, by kernel_rfl⟩, Try.underlying3, Try.underlying34, by kernel_rfl, by kernel_rfl, by kernel_rfl⟩
theorem cellsU8 : Try.prog.cellsOf 5 = 1 := by kernel_rfl
set_option maxRecDepth 100000 in
theorem lifted (os : Os) (started : os.Started) (H : Type) (enc : TypeId × Value → H) :
    ReturnsInHanded {} Try.checked os 4 .any (Rows.walGivesUpSpec.pre6 enc Try.prog Try.f4 Rows.walGivesUpRow.domain false) (Rows.walGivesUpSpec.post enc Try.prog Try.f4 false true false false) := by
  refine returnsInHanded_of_change (C := Try.checked) own started (by kernel_rfl) Try.func4
    (ChangeSpec.witness6 (enc := enc) (C := Try.checked) false ⟨#[], #[.agg #[.int .i64 0, .int .i64 0, .slice none 0 0], .slice none 0 0, .bool false], []⟩ 8 (by kernel_rfl) (by kernel_rfl) (by kernel_rfl) (by kernel_rfl)) ?_
  intro W base args ds gs before hval0 hW hcnd _
  have hval : ∀ (j : Nat) t v, Try.f4.params[j]? = some t → args[j]? = some v → Value.okWide Try.prog W .any base t v := hval0
  have hW' := hW
  obtain ⟨p, q, hA0, hV, rfl, hfz, hnd⟩ := hW
  have hA : DataW.TrodAll enc Try.prog W 0 (fun _ => true) true Try.f4.params.toList args.toList ds p := hA0
  rw [Try.params4] at hA hval
  obtain ⟨v0, vs0, d0, ds0, p0, q0, hargs, rfl, rfl, h0, r0⟩ := trodAll_cons hA
  obtain ⟨v1, vs1, d1, ds1, p1, q1, rfl, rfl, rfl, h1, r1⟩ := trodAll_cons r0
  obtain ⟨v2, vs2, d2, ds2, p2, q2, rfl, rfl, rfl, h2, r2⟩ := trodAll_cons r1
  obtain ⟨rfl, rfl, rfl⟩ := trodAll_nil r2
  obtain rfl : args = #[v0, v1, v2] := by cases args; simp_all
  obtain ⟨f0, g0⟩ := h0
  obtain ⟨fs0, hfs0, -⟩ := lifeTy.str
  obtain ⟨cs0, rfl, -⟩ := okWide_struct hfs0 (hval 0 36 v0 rfl rfl)
  obtain ⟨a0, b0, ta, tn, tc, hcs, ha, hb⟩ := open_life lifeTy g0
  obtain rfl : cs0 = #[.int .i64 a0, .int .i64 b0, .slice ta tn tc] := by
    rw [← Array.toList_inj]
    simpa [Value.cells] using hcs
  obtain ⟨ja, jn, jc, J, rfl, hj, -⟩ := open_bytes Try.underlying37 Try.underlying5 cellsU8 (hval 1 37 v1 rfl rfl) h1
  obtain ⟨st, rfl, -, -⟩ := open_bool Try.underlying4 (hval 2 4 v2 rfl rfl) h2
  have hjl : J.length = jn := by have := hj.len; rwa [byts_length] at this
  refine (con_law (gives_con _ a0 b0 ta tn tc ha.1 ha.2 hb.1 hb.2 ja jc J st) (fun ρ => by simp only [Eng.denL, Eng.SV.den, hjl]) (fun ρ => by simp only [Eng.okL, Eng.SV.ok, and_true, true_and]; exact hj.rd) (.bool true) (fun _ _ _ h => h)).mono fun e W' ⟨he, hf⟩ => ⟨_, he, ?_⟩
  refine law_post (tb := 4) laidOut (by rw [Try.params4]; decide +kernel) hW' rfl (fun es hes => ?_) (by kernel_rfl) Try.underlying4 hf
  match es, hes with
  | [_, _, _], _ => rfl

theorem over : Rows.walGivesUpRow.holds Try.pinned (OpenSpec.ofChange Rows.walGivesUpSpec) :=
  OpenClaim.holds_of_wide 4 Try.f4 rfl rfl rfl rfl rfl rfl rfl ⟨rfl, rfl, rfl, rfl, rfl⟩ rfl rfl rfl rfl rfl (by kernel_rfl) Try.func4 (by kernel_rfl)
    (of_decide_eq_true (by kernel_rfl)) (by unfold Func.isWrapper; first | (rw [if_pos (by decide +kernel)]; kernel_rfl) | (rw [if_neg (by decide +kernel)]; exact ⟨rfl, rfl⟩))
    (fun os started H enc _ => lifted os started H enc)

theorem proved : Rows.WalGivesUpSaid := over
#print axioms proved
end Go.Proofs.Ytpaebopmppbjbaa.walGivesUp
