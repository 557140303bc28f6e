/-
  PageExact: (P10.1 to P10.6): for every script, of bulk at most 1048576, the law says true (every answer of every call is the document's; what is handed in stays as it is; what callers write into what was handed out is seen nowhere), and turns nothing that came in.
  Conditions: none beyond the card's own: page.table holds at the begin what the program's text lays (the card ties that to the text).
-/
import Derived.Test.YtipmfbpomhcfcaaDoorLaid
import Derived.Test.YtipmfbpomhcfcaaDoorBulk
import Derived.Test.YtipmfbpomhcfcaaDoorOps
import Derived.Test.YtipmfbpomhcfcaaDoorPageExact
namespace Go.Proofs.YtipmfbpomhcfcaaDoor.pageExact
open Go.ChangeShapes Go.WideShapes Go.ChangeAt Go.RowKit Go.Le

theorem contract (H : Type) (enc : TypeId × Value → H) (W : World) (base : Nat) (args : Array Value) (ds gs : List (DataW H)) (before : List MemPlace)
    (hval : ∀ (j : Nat) t v, Tryd.f4.params[j]? = some t → args[j]? = some v → Value.okWide Tryd.prog W .any base t v)
    (hW : DataW.Whole enc Tryd.prog Tryd.f4.params.toList Rows.pageExactSpec.vars false W args.toList ds gs before) (hL : laidMetH Tryd.prog Rows.pageExactRow.laid W) (hk : Rows.uptoSmall H (ds ++ gs) = true) :
    Calls Tryd.prog 4 args W fun e W' => ∃ v, e = .returned v ∧ Rows.pageExactSpec.post enc Tryd.prog Tryd.f4 false true false false W args v W' := by
  have hW' := hW
  obtain ⟨p, q, hA0, hV, rfl, hfz, hnd⟩ := hW
  have hA : DataW.TrodAll enc Tryd.prog W 0 (fun _ => true) true Tryd.f4.params.toList args.toList ds p := hA0
  rw [Tryd.params4] at hA hval
  obtain ⟨v0, vs0, d0, ds0, p0, q0, hargs, rfl, rfl, h0, r0⟩ := trodAll_cons hA
  obtain ⟨rfl, rfl, rfl⟩ := trodAll_nil r0
  obtain rfl : args = #[v0] := by cases args; simp_all
  obtain ⟨f0, g0⟩ := h0
  obtain ⟨a1, n1, c1, rfl⟩ := okWide_slice Tryd.underlying27 (hval 0 27 v0 rfl rfl)
  obtain ⟨a, n, c, hcs, hn, hc, hd⟩ := open_ops Rows.uptoBulk bulk.field Tryd.underlying27 Tryd.underlying34 (by kernel_rfl) (by kernel_rfl) (by rfl) Tryd.underlying3 Tryd.underlying22 Tryd.underlying5 cellsU8
    (fun j hj => by match j, hj with | 0, _ => rfl | 1, _ => rfl | 2, _ => rfl | 3, _ => rfl) (by rfl) g0
  simp only [Value.cells, List.cons.injEq, and_true] at hcs
  rw [hcs]
  rw [hcs] at hW'
  have hs : Script W a n := by
    rcases hd with ⟨rfl, -⟩ | ⟨D, sp, hx, he⟩
    · intro i hi; omega
    · intro i hi
      obtain ⟨b, o, kd, no, av, cv, sa, m, sc, l, ha, hb, ho, hl, hm⟩ := he i hi
      exact ⟨b, o, kd, no, av, cv, sa, m, sc, l, ha, hb, ho, hl, Nat.le_trans hm (bulk.elem D sp (ds := [d0] ++ gs) (by simp only at hx; rw [← hx]; simp) hk i hi)⟩
  refine (pageExact_any W (tabled hL) a n c hn hc hs).mono fun e W' ⟨he, hf⟩ => ⟨_, he, ?_⟩
  refine law_post (tb := 4) laidOut (by rw [Tryd.params4]; decide +kernel) hW' rfl (fun es hes => ?_) (by kernel_rfl) Tryd.underlying4 hf
  match es, hes with
  | [_], _ => rfl

theorem laid_met (os : Os) : laidMet Tryd.prog Rows.pageExactRow.laid ((laidWorld os).forCall (fun _ _ => 0) ⟨#[], #[.slice none 0 0], []⟩).memory :=
  laidMet_of_run' 8 (by kernel_rfl) (by kernel_rfl)
theorem reads (os : Os) {H : Type} (enc : TypeId × Value → H) : ∃ places, DataW.whole enc Tryd.prog ((laidWorld os).forCall (fun _ _ => 0) ⟨#[], #[.slice none 0 0], []⟩).memory Tryd.f4.params.toList Rows.pageExactSpec.vars false #[Value.slice none 0 0].toList 8 = some ([.nil], [], places) :=
  ⟨[], by kernel_rfl⟩

set_option maxRecDepth 100000 in
theorem liftedUpto (os : Os) (started : os.Started) (H : Type) (enc : TypeId × Value → H) (F : Stop.Interp) :
    ReturnsInHanded {} Tryd.checked os 4 .any ((Rows.OpenSpec.upto Rows.pageExactSpec).preRow enc Tryd.prog Tryd.f4 Rows.pageExactUptoRow.domain false Rows.pageExactUptoRow.laid) (((Rows.OpenSpec.upto Rows.pageExactSpec).at F).post enc Tryd.prog Tryd.f4 false true false false) := by
  obtain ⟨places, hx⟩ := reads os enc
  refine returnsInHanded_of_row (C := Tryd.checked) (s := Rows.OpenSpec.upto Rows.pageExactSpec) own started (by kernel_rfl) Tryd.func4
    (witness_row_at (enc := enc) (C := Tryd.checked) false (laidWorld os) #[.slice none 0 0] rfl (by kernel_rfl) (by kernel_rfl) (by kernel_rfl)
      (OpenSpec.preRow_of_cond 8 hx (by kernel_rfl) (fun k hk => by cases hk; kernel_rfl) (by kernel_rfl) (laid_met os))) ?_
  intro W base args ds gs before hval hW _ hcond _ hL _ _
  exact contract H enc W base args ds gs before hval hW hL (hcond _ rfl)

theorem saidUpto : Rows.PageExactUptoSaid :=
  OpenClaim.holds_of_cond 4 Tryd.f4 rfl rfl rfl rfl rfl rfl rfl ⟨rfl, rfl, rfl, rfl, rfl⟩ rfl rfl rfl rfl rfl (by kernel_rfl) Tryd.func4 (by kernel_rfl)
    (of_decide_eq_true (by kernel_rfl)) (by unfold Func.isWrapper; first | (rw [if_pos (by decide +kernel)]; kernel_rfl) | (rw [if_neg (by decide +kernel)]; exact ⟨rfl, rfl⟩))
    (fun os started H enc _ F => by rw [OpenClaim.pre_eq_preRow]; exact liftedUpto os started H enc F)

/-- no parameter wants a stand-in; the program's own looks are off -/
theorem plain (f : FuncId) (fn : Func) (hf : Tryd.pinned.checked.prog.funcNamed "lethe/lethelaw10.PageExact" = some f) (hfn : Tryd.pinned.checked.prog.funcs[f]? = some fn) :
    false = Tryd.pinned.checked.prog.looks [] ∧ ∀ (j : Nat) t, fn.params[j]? = some t → Tryd.pinned.checked.prog.wantsStandIn t = false := by
  obtain rfl : f = 4 := Option.some.inj ((show Tryd.prog.funcNamed "lethe/lethelaw10.PageExact" = some 4 by kernel_rfl).symm.trans hf) |>.symm
  obtain rfl : fn = Tryd.f4 := (Option.some.inj (Tryd.func4.symm.trans hfn)).symm
  refine ⟨by kernel_rfl, fun j t ht => ?_⟩
  rw [Tryd.params4] at ht
  have hall : ∀ t ∈ #[27], Tryd.prog.wantsStandIn t = false := by
    intro t h
    simp only [List.mem_toArray, List.mem_cons, List.not_mem_nil, or_false] at h
    rcases h with rfl <;> kernel_rfl
  exact hall t (Array.mem_of_getElem? ht)

theorem cardUpto : Rows.PageExactUptoCardSaid :=
  Claim7.holds_tied_plain_at .later [] _ _ _ _ saidUpto (fun _ h => by cases h) (by kernel_rfl) (fun _ h => by cases h) pageExactUpto_row_tie rfl ⟨rfl, rfl⟩ (by kernel_rfl) rfl plain (by kernel_rfl)
#print axioms cardUpto
end Go.Proofs.YtipmfbpomhcfcaaDoor.pageExact
