/-
  WalIdle: a Commit that is refused, or of no pages, calls nothing of the disk and changes nothing, and the law says so at every input.
  Conditions: none beyond the card's own: errors.errorType holds at the begin what the program's text lays (the card ties that to the text).
-/
import Derived.Test.YtpaebopmppbjbaaGreatDoorWi
import Derived.Test.YtpaebopmppbjbaaGreatDoorLifeT
set_option linter.unusedVariables false
set_option linter.unusedSimpArgs false
namespace Go.Proofs.YtpaebopmppbjbaaGreatDoor.walIdle
open Go.ChangeShapes Go.WideShapes Go.ChangeAt Go.RowKit Go.Le
open Go.Eng (Opened opn)
set_option maxRecDepth 100000 in
theorem contract (H : Type) (enc : TypeId × Value → H) (W : World) (base : Nat) (args : Array Value) (ds gs : List (DataW H)) (before : List MemPlace)
    (hval : ∀ (j : Nat) t v, Tryz.f3.params[j]? = some t → args[j]? = some v → Value.okWide Tryz.prog W .any base t v)
    (hW : DataW.Whole enc Tryz.prog Tryz.f3.params.toList Rows.walIdleSpec.vars false W args.toList ds gs before) (hL : laidMetH Tryz.prog Rows.walIdleRow.laid W) :
    Calls Tryz.prog 3 args W fun e W' => ∃ v, e = .returned v ∧ Rows.walIdleSpec.post enc Tryz.prog Tryz.f3 false true false false W args v W' := by
  have hW' := hW
  obtain ⟨p, q, hA0, hV, rfl, hfz, hnd⟩ := hW
  have hA : DataW.TrodAll enc Tryz.prog W 0 (fun _ => true) true Tryz.f3.params.toList args.toList ds p := hA0
  rw [Tryz.params3] at hA hval
  obtain ⟨v0, vs0, d0, ds0, p0, q0, hargs, rfl, rfl, h0, r0⟩ := trodAll_cons hA
  obtain ⟨v1, vs1, d1, ds1, p1, q1, rfl, rfl, rfl, h1, r1⟩ := trodAll_cons r0
  obtain ⟨v2, vs2, d2, ds2, p2, q2, rfl, rfl, rfl, h2, r2⟩ := trodAll_cons r1
  obtain ⟨rfl, rfl, rfl⟩ := trodAll_nil r2
  obtain rfl : args = #[v0, v1, v2] := by cases args; simp_all
  obtain ⟨f0, g0⟩ := h0
  obtain ⟨f1, g1⟩ := h1
  obtain ⟨cs0, rfl, -⟩ := okWide_struct Tryz.underlying24 (hval 0 24 v0 rfl rfl)
  obtain ⟨cs1, rfl, -⟩ := okWide_struct Tryz.underlying26 (hval 1 26 v1 rfl rfl)
  have o0 := opn 40 _ _ sh_life _ _ _ g0
  have o1 := opn 40 _ _ sh_page _ _ _ g1
  obtain ⟨a0, b0, ta, tc, TT, e0, ha, hb, hTT, hok⟩ := fit_life o0
  obtain ⟨l1, e1, -, hf1⟩ := o1
  obtain ⟨⟨nu, f, cut⟩, rfl, hnu, hcut⟩ := fit_page hf1
  obtain ⟨at', rfl, -, -, wa⟩ := open_int Tryz.underlying3 (hval 2 3 v2 rfl rfl) h2
  have wat := wfI wa
  obtain rfl : cs0 = #[.int .i64 a0, .int .i64 b0, .slice ta TT.length tc] := by rw [← Array.toList_inj]; simpa [Value.cells] using e0
  obtain rfl : cs1 = #[.int .i64 nu, .int .u8 (f.toNat : Int), .int .i64 cut] := by rw [← Array.toList_inj]; exact (show cs1.toList = _ from e1)
  refine (Go.Eng.con_law' (idle_con _ a0 b0 ta tc TT (fun t ht => (hTT t ht).T) ha.1 ha.2 hb.1 hb.2 nu f cut at' hnu.1 hnu.2 hcut.1 hcut.2 wat.1 wat.2) (fun ρ => by simp only [Eng.star, eT, Eng.Ck.den]; rw [sep_emp]) (fun ρ => ⟨handle_of_laid hL, trivial⟩)
    (fun ρ => by simp only [Eng.denL, Eng.SV.den, turnsC, List.length_map]) (fun ρ => by have := hok ρ; simp only [Eng.okL, Eng.SV.ok, and_true, true_and] at this ⊢; exact this) (.bool true) (fun _ _ _ h => h)).mono fun e W' ⟨he, hf⟩ => ⟨_, he, ?_⟩
  refine law_post (tb := 4) laidOut (by rw [Tryz.params3]; decide +kernel) hW' rfl (fun es hes => ?_) (by kernel_rfl) Tryz.underlying4 hf
  match es, hes with
  | [_, _, _], _ => rfl
abbrev wargs : Array Value := #[.agg #[.int .i64 0, .int .i64 0, .slice none 0 0], .agg #[.int .i64 0, .int .u8 0, .int .i64 0], .int .i64 0]
theorem reads (os : Os) {H : Type} (enc : TypeId × Value → H) : ∃ x, DataW.whole enc Tryz.prog ((laidWorld os).forCall (fun _ _ => 0) ⟨#[], wargs, []⟩).memory Tryz.f3.params.toList Rows.walIdleSpec.vars false wargs.toList 8 = some x :=
  ⟨([.agg [.lit (.int .i64 0), .lit (.int .i64 0), .nil], .agg [.lit (.int .i64 0), .lit (.int .u8 0), .lit (.int .i64 0)], .lit (.int .i64 0)], [], []), by kernel_rfl⟩
set_option maxRecDepth 100000 in
theorem lifted (os : Os) (started : os.Started) (H : Type) (enc : TypeId × Value → H) (F : Stop.Interp) :
    ReturnsInHanded {} Tryz.checked os 3 .any ((OpenSpec.ofChange Rows.walIdleSpec).preRow enc Tryz.prog Tryz.f3 Rows.walIdleRow.domain false Rows.walIdleRow.laid) (((OpenSpec.ofChange Rows.walIdleSpec).at F).post enc Tryz.prog Tryz.f3 false true false false) := by
  obtain ⟨x, hx⟩ := reads os enc
  refine returnsInHanded_of_row (C := Tryz.checked) (s := OpenSpec.ofChange Rows.walIdleSpec) own started (by kernel_rfl) Tryz.func3
    (witness_row_at (enc := enc) (C := Tryz.checked) false (laidWorld os) wargs rfl (by kernel_rfl) (by kernel_rfl) (by kernel_rfl)
      (OpenSpec.preRow_of_cond 8 hx (by rfl) (fun k hk => by cases hk) (by kernel_rfl) (laidWorld_met os _))) ?_
  intro W base args ds gs before hval hW _ _ _ hL _ _
  exact contract H enc W base args ds gs before hval hW hL
theorem said : Rows.WalIdleSaid :=
  OpenClaim.holds_of_cond 3 Tryz.f3 rfl rfl rfl rfl rfl rfl rfl ⟨rfl, rfl, rfl, rfl, rfl⟩ rfl rfl rfl rfl rfl (by kernel_rfl) Tryz.func3 (by kernel_rfl)
    (of_decide_eq_true (by kernel_rfl)) (by unfold Func.isWrapper; first | (rw [if_pos (by decide +kernel)]; kernel_rfl) | (rw [if_neg (by decide +kernel)]; exact ⟨rfl, rfl⟩))
    (fun os started H enc _ F => by rw [OpenClaim.pre_eq_preRow]; exact lifted os started H enc F)
/-- no parameter wants a stand-in; the program's own looks are as the card tells -/
theorem plain (f : FuncId) (fn : Func) (hf : Tryz.pinned.checked.prog.funcNamed "lethe/lethelaw09.WalIdle" = some f) (hfn : Tryz.pinned.checked.prog.funcs[f]? = some fn) :
    true = Tryz.pinned.checked.prog.looks [] ∧ ∀ (j : Nat) t, fn.params[j]? = some t → Tryz.pinned.checked.prog.wantsStandIn t = false := by
  obtain rfl : f = 3 := Option.some.inj ((show Tryz.prog.funcNamed "lethe/lethelaw09.WalIdle" = some 3 by kernel_rfl).symm.trans hf) |>.symm
  obtain rfl : fn = Tryz.f3 := (Option.some.inj (Tryz.func3.symm.trans hfn)).symm
  refine ⟨by kernel_rfl, fun j t ht => ?_⟩
  rw [Tryz.params3] at ht
  have hall : ∀ t ∈ #[24, 26, 3], Tryz.prog.wantsStandIn t = false := by
    intro t h
    simp only [List.mem_toArray, List.mem_cons, List.not_mem_nil, or_false] at h
    rcases h with rfl | rfl | rfl <;> kernel_rfl
  exact hall t (Array.mem_of_getElem? ht)
theorem card : Rows.WalIdleCardSaid :=
  Claim7.holds_tied_plain_at .later [] _ _ _ _ said (fun _ h => by cases h) (by kernel_rfl) (fun _ h => by cases h) walIdle_row_tie rfl ⟨rfl, rfl⟩ (by kernel_rfl) rfl plain (by kernel_rfl)
#print axioms card
end Go.Proofs.YtpaebopmppbjbaaGreatDoor.walIdle
