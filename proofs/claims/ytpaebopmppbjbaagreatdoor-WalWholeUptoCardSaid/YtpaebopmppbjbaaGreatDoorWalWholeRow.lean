/-
  WalWhole, on inputs of bulk at most 1048576: every Commit, with any fall of the disk in it and in the Opens behind it, leaves all its pages written or none, and the law says so.
  Conditions: none beyond the card's own: errors.errorType holds at the begin what the program's text lays (the card ties that to the text).
-/
import Derived.Test.YtpaebopmppbjbaaGreatDoorWy
import Derived.Test.YtpaebopmppbjbaaGreatDoorLifeS
import Derived.Test.YtpaebopmppbjbaaGreatDoorBulk
set_option linter.unusedVariables false
set_option linter.unusedSimpArgs false
namespace Go.Proofs.YtpaebopmppbjbaaGreatDoor.walWhole
open Go.ChangeShapes Go.WideShapes Go.ChangeAt Go.RowKit Go.Le
open Go.Eng (OpenedS opnS SizedD)
theorem sizedBulk {H : Type} : SizedD (Rows.uptoBulk (H := H)) where
  len e s := by have := bulk.all_length e; simp only [Rows.uptoBulk]; omega
  elem e s x hx := by have := bulk.mem_all hx; simp only [Rows.uptoBulk]; omega
  part ps x hx := by have := bulk.mem_all hx; simp only [Rows.uptoBulk]; omega
set_option maxRecDepth 100000 in
theorem contract (H : Type) (enc : TypeId × Value → H) (W : World) (base : Nat) (args : Array Value) (ds gs : List (DataW H)) (before : List MemPlace)
    (hval : ∀ (j : Nat) t v, Tryz.f4.params[j]? = some t → args[j]? = some v → Value.okWide Tryz.prog W .any base t v)
    (hW : DataW.Whole enc Tryz.prog Tryz.f4.params.toList Rows.walWholeSpec.vars false W args.toList ds gs before) (hL : laidMetH Tryz.prog Rows.walWholeRow.laid W) (hk : Rows.uptoSmall H (ds ++ gs) = true) :
    Calls Tryz.prog 4 args W fun e W' => ∃ v, e = .returned v ∧ Rows.walWholeSpec.post enc Tryz.prog Tryz.f4 false true false false W args v W' := by
  have hW' := hW
  obtain ⟨p, q, hA0, hV, rfl, hfz, hnd⟩ := hW
  have hA : DataW.TrodAll enc Tryz.prog W 0 (fun _ => true) true Tryz.f4.params.toList args.toList ds p := hA0
  rw [Tryz.params4] at hA hval
  obtain ⟨v0, vs0, d0, ds0, p0, q0, hargs, rfl, rfl, h0, r0⟩ := trodAll_cons hA
  obtain ⟨rfl, rfl, rfl⟩ := trodAll_nil r0
  obtain rfl : args = #[v0] := by cases args; simp_all
  obtain ⟨f0, g0⟩ := h0
  obtain ⟨cs0, rfl, -⟩ := okWide_struct Tryz.underlying24 (hval 0 24 v0 rfl rfl)
  have o0 := (opnS Rows.uptoBulk sizedBulk 40 _ _ sh_life _ _ _ g0).mono (bulk.of_mem (d := d0) (by simp) hk)
  obtain ⟨a0, b0, ta, tc, TT, e0, ha, hb, hTT, hok⟩ := fit_lifeS o0
  obtain rfl : cs0 = #[.int .i64 a0, .int .i64 b0, .slice ta TT.length tc] := by rw [← Array.toList_inj]; simpa [Value.cells] using e0
  refine (Go.Eng.con_law' (whole_con _ a0 b0 ta tc TT (fun t ht => ⟨List.all_eq_true.2 fun x hx => decide_eq_true ((hTT t ht).T x hx), fun x hx => ⟨((hTT t ht).F x hx).1, ((hTT t ht).F x hx).2.1, by have := ((hTT t ht).F x hx).2.2; omega⟩⟩) ha.1 ha.2 hb.1 hb.2) (fun ρ => by simp only [Eng.star, eT, Eng.Ck.den]; rw [sep_emp]) (fun ρ => ⟨handle_of_laid hL, trivial⟩)
    (fun ρ => by simp only [Eng.denL, Eng.SV.den, turnsC, List.length_map]) (fun ρ => by have := hok ρ; simp only [Eng.okL, Eng.SV.ok, and_true, true_and] at this ⊢; exact this) (.bool true) (fun _ _ _ h => h)).mono fun e W' ⟨he, hf⟩ => ⟨_, he, ?_⟩
  refine law_post (tb := 4) laidOut (by rw [Tryz.params4]; decide +kernel) hW' rfl (fun es hes => ?_) (by kernel_rfl) Tryz.underlying4 hf
  match es, hes with
  | [_], _ => rfl
abbrev wargs : Array Value := #[.agg #[.int .i64 0, .int .i64 0, .slice none 0 0]]
theorem reads (os : Os) {H : Type} (enc : TypeId × Value → H) : ∃ q, DataW.whole enc Tryz.prog ((laidWorld os).forCall (fun _ _ => 0) ⟨#[], wargs, []⟩).memory Tryz.f4.params.toList Rows.walWholeSpec.vars false wargs.toList 8 = some ([.agg [.lit (.int .i64 0), .lit (.int .i64 0), .nil]], [], q) :=
  ⟨[], by kernel_rfl⟩
set_option maxRecDepth 100000 in
theorem liftedUpto (os : Os) (started : os.Started) (H : Type) (enc : TypeId × Value → H) (F : Stop.Interp) :
    ReturnsInHanded {} Tryz.checked os 4 .any ((Rows.OpenSpec.upto Rows.walWholeSpec).preRow enc Tryz.prog Tryz.f4 Rows.walWholeUptoRow.domain false Rows.walWholeUptoRow.laid) (((Rows.OpenSpec.upto Rows.walWholeSpec).at F).post enc Tryz.prog Tryz.f4 false true false false) := by
  obtain ⟨x, hx⟩ := reads os enc
  refine returnsInHanded_of_row (C := Tryz.checked) (s := Rows.OpenSpec.upto Rows.walWholeSpec) own started (by kernel_rfl) Tryz.func4
    (witness_row_at (enc := enc) (C := Tryz.checked) false (laidWorld os) wargs rfl (by kernel_rfl) (by kernel_rfl) (by kernel_rfl)
      (OpenSpec.preRow_of_cond 8 hx (by rfl) (fun k hk => by cases hk; kernel_rfl) (by kernel_rfl) (laidWorld_met os _))) ?_
  intro W base args ds gs before hval hW _ hcond _ hL _ _
  exact contract H enc W base args ds gs before hval hW hL (hcond _ rfl)
theorem saidUpto : Rows.WalWholeUptoSaid :=
  OpenClaim.holds_of_cond 4 Tryz.f4 rfl rfl rfl rfl rfl rfl rfl ⟨rfl, rfl, rfl, rfl, rfl⟩ rfl rfl rfl rfl rfl (by kernel_rfl) Tryz.func4 (by kernel_rfl)
    (of_decide_eq_true (by kernel_rfl)) (by unfold Func.isWrapper; first | (rw [if_pos (by decide +kernel)]; kernel_rfl) | (rw [if_neg (by decide +kernel)]; exact ⟨rfl, rfl⟩))
    (fun os started H enc _ F => by rw [OpenClaim.pre_eq_preRow]; exact liftedUpto os started H enc F)
/-- no parameter wants a stand-in; the program's own looks are as the card tells -/
theorem plain (f : FuncId) (fn : Func) (hf : Tryz.pinned.checked.prog.funcNamed "lethe/lethelaw09.WalWhole" = some f) (hfn : Tryz.pinned.checked.prog.funcs[f]? = some fn) :
    true = Tryz.pinned.checked.prog.looks [] ∧ ∀ (j : Nat) t, fn.params[j]? = some t → Tryz.pinned.checked.prog.wantsStandIn t = false := by
  obtain rfl : f = 4 := Option.some.inj ((show Tryz.prog.funcNamed "lethe/lethelaw09.WalWhole" = some 4 by kernel_rfl).symm.trans hf) |>.symm
  obtain rfl : fn = Tryz.f4 := (Option.some.inj (Tryz.func4.symm.trans hfn)).symm
  refine ⟨by kernel_rfl, fun j t ht => ?_⟩
  rw [Tryz.params4] at ht
  have hall : ∀ t ∈ #[24], Tryz.prog.wantsStandIn t = false := by
    intro t h
    simp only [List.mem_toArray, List.mem_cons, List.not_mem_nil, or_false] at h
    subst h; kernel_rfl
  exact hall t (Array.mem_of_getElem? ht)
theorem cardUpto : Rows.WalWholeUptoCardSaid :=
  Claim7.holds_tied_plain_at .later [] _ _ _ _ saidUpto (fun _ h => by cases h) (by kernel_rfl) (fun _ h => by cases h) walWholeUpto_row_tie rfl ⟨rfl, rfl⟩ (by kernel_rfl) rfl plain (by kernel_rfl)
#print axioms cardUpto
end Go.Proofs.YtpaebopmppbjbaaGreatDoor.walWhole
