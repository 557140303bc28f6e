/- What the rows of this seat have in common: what errors.errorType holds at the begin; a world for the witness. -/
import Derived.Test.YtpaebopmppbjbaaGreatDoorCards
import Derived.Test.YtpaebopmppbjbaaGreatDoorTie
import Derived.Test.YtpaebopmppbjbaaGreatDoorRow
import Derived.Test.YtpaebopmppbjbaaGreatDoorErrM
import Derived.Test.YtpaebopmppbjbaaGreatDoorDeep
import Derived.ProofKit
import Derived.OpenShut
import Derived.LaidHandle
import Derived.LaidLaws
import Derived.Deep.DeepHandedRow
set_option linter.unusedVariables false
set_option linter.unusedSimpArgs false
namespace Go.Eng
open Go Go.RowKit Go.Le
/-- a law's contract, asked where nothing is made yet, but with parts that are nothing but knowledge -/
theorem con_law' {Pg : Program} {f : FuncId} {xs : List SV} {args : Array Value} {W : World} {pre : List Ck} {post : SV → Hp → List Ck → Prop} (h : Con Pg [] f xs (fun _ => none) pre post) (hs : ∀ ρ, star ρ pre = emp) (hk : ∀ ρ, okC ρ W (fun _ => none) pre) (ha : ∀ ρ, (denL ρ xs).toArray = args) (hok : ∀ ρ, okL ρ W (fun _ => none) xs)
    (b : Value) (hp : ∀ x P' H', post x P' H' → x = .raw b) : Calls Pg f args W fun e W' => e = .returned b ∧ Fr W.heap.size [] W W' := by
  have h1 := h.2 (fun _ => none) W W emp ⟨(Mem.start W).eq (by rw [hs]; show emp = own (fun _ => none) * (emp * emp); rw [sep_emp]; show emp = emp * emp; rw [sep_emp]), hk _⟩ (hok _)
  rw [ha] at h1
  refine h1.mono ?_
  rintro e W' ⟨ρ', x, P', H', -, rfl, -, hM, -, hq⟩
  rw [hp _ _ _ hq]
  exact ⟨rfl, hM.mem.base⟩
end Go.Eng
namespace Go.Proofs.YtpaebopmppbjbaaGreatDoor
open Go.ChangeShapes Go.WideShapes Go.ChangeAt Go.RowKit Go.Le
theorem own : ownKnob Tryz.prog.godebug = none := by kernel_rfl
theorem laidOut : laidOutB Tryz.prog = true := by kernel_rfl
theorem hEt : Tryz.prog.globalNamed "errors.errorType" = some 0 := by kernel_rfl
theorem hRt : (Tryz.prog.cutTypes.find? (·.1 == "internal/reflectlite.rtype")).map (·.2) = some 150 := by kernel_rfl
theorem hOne : ((List.range 207).filter fun t => Tryz.prog.rowNamed t [101, 114, 114, 111, 114]) = [46] := by kernel_rfl
theorem hSize : Tryz.prog.types.size = 207 := by kernel_rfl
/-- what the condition gives a walk: the variable's one cell -/
theorem handle_of_laid {W : World} (h : laidMetH Tryz.prog [("errors.errorType", Rows.laid_errors_errorType)] W) : errorTypeH W := by
  have h' : laidMet Tryz.prog [] W ∧ handlesMet Tryz.prog [("errors.errorType", Rows.laid_errors_errorType)] W := h
  obtain ⟨name, u, ty, e1, e2, e3, e4, e5⟩ := h'.2 _ (List.mem_singleton.2 rfl)
  have en : name = [101, 114, 114, 111, 114] := (Option.some.inj e1).symm
  subst en
  obtain rfl := Option.some.inj (hRt.symm.trans e2)
  have hm : ty ∈ (List.range 207).filter fun t => Tryz.prog.rowNamed t [101, 114, 114, 111, 114] := List.mem_filter.2 ⟨List.mem_range.2 (by rw [← hSize]; exact e3), e4⟩
  rw [hOne] at hm
  obtain rfl := List.mem_singleton.1 hm
  have hh : typeHandle Tryz.prog 46 = .pointer (some ⟨1, 46, none⟩) := by kernel_rfl
  rw [hh] at e5
  unfold errorTypeH
  simpa using World.var?_cell hEt e5 0
/-- a world that meets the condition: the settled one, the variable's cell laid -/
noncomputable def laidWorld (os : Os) : World :=
  { World.holding Tryz.prog os ⟨#[], #[], []⟩ with heap := (World.holding Tryz.prog os ⟨#[], #[], []⟩).heap.modify 0 fun
      | .cells _ t frozen => .cells #[.iface 150 (.agg #[.pointer (some ⟨1, 46, none⟩)])] t frozen
      | o => o }
theorem laidWorld_met (os : Os) (args : Array Value) : laidMetH Tryz.prog [("errors.errorType", Rows.laid_errors_errorType)] ((laidWorld os).forCall (fun _ _ => 0) ⟨#[], args, []⟩).memory :=
  laidMetH_of_parts (laidMet_nil _ _) (by kernel_rfl)
end Go.Proofs.YtpaebopmppbjbaaGreatDoor
