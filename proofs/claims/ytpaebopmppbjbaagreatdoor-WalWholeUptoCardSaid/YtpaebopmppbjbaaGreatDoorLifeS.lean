/- The argument Life of the laws of package wal, opened, with a bound on its slices. -/
import Derived.Test.YtpaebopmppbjbaaGreatDoorLifeT
import Derived.Test.YtpaebopmppbjbaaGreatDoorDeepS
set_option linter.unusedVariables false
set_option linter.unusedSimpArgs false
namespace Go.Proofs.YtpaebopmppbjbaaGreatDoor
open Go Go.RowKit Go.Le Go.Eng Go.ChangeShapes Go.WideShapes
theorem fit_fallS {m : Nat} {l : List Cell} (h : fitsL shFall l) (hm : cellsLe m l) : ∃ x : Fl, l = flEnc x ∧ (-9223372036854775808 ≤ x.step ∧ x.step ≤ 9223372036854775807) ∧ x.loss.ok ∧ x.loss.keep.length ≤ m := by
  obtain ⟨x, rfl, h1, h2⟩ := fit_fall h
  refine ⟨x, rfl, h1, h2, ?_⟩
  simp only [flEnc, cellsLe, Cell.le, List.length_map] at hm
  exact hm.2.1.1
/-- what is known of a turn that came in -/
structure Tn.OkS (m : Nat) (t : Tn) : Prop where
  T : ∀ x ∈ t.T, -9223372036854775808 ≤ x.1 ∧ x.1 ≤ 9223372036854775807
  F : ∀ x ∈ t.F, (-9223372036854775808 ≤ x.step ∧ x.step ≤ 9223372036854775807) ∧ x.loss.ok ∧ x.loss.keep.length ≤ m
theorem fit_turnS {m : Nat} {l : List Cell} (h : fitsL shTurn l) (hm : cellsLe m l) : ∃ t : Tn, l = tnEnc t ∧ t.OkS m := by
  simp only [shTurn, fitsL, Sh.fits] at h
  obtain ⟨_, _, rfl, ⟨pa, pc, pl, rfl, hp⟩, _, _, rfl, ⟨cr, rfl⟩, _, _, rfl, ⟨fa, fc, fl, rfl, hf⟩, _, _, rfl, ⟨an, rfl⟩, rfl⟩ := h
  simp only [cellsLe, Cell.le] at hm
  have hfl := cellsLeR_iff.1 hm.2.2.1.2
  obtain ⟨T, rfl, hT⟩ := list_map_of (f := pgEnc) (p := fun x => -9223372036854775808 ≤ x.1 ∧ x.1 ≤ 9223372036854775807) (l := pl) fun y hy => by
    obtain ⟨x, hx, h1, -⟩ := fit_page (hp y hy)
    exact ⟨x, hx, h1⟩
  obtain ⟨F, rfl, hF⟩ := list_map_of (f := flEnc) (p := fun x => (-9223372036854775808 ≤ x.step ∧ x.step ≤ 9223372036854775807) ∧ x.loss.ok ∧ x.loss.keep.length ≤ m) (l := fl) fun y hy => by
    obtain ⟨x, hx, h1, h2, h3⟩ := fit_fallS (hf y hy) (hfl y hy)
    exact ⟨x, hx, h1, h2, h3⟩
  exact ⟨⟨pa, pc, T, cr, fa, fc, F, an⟩, rfl, hT, hF⟩
theorem fit_lifeS {W : World} {m : Nat} {cs : List Value} (h : OpenedS W m shLife cs) : ∃ (a0 b0 : Int) (ta : Option Addr) (tc : Nat) (TT : List Tn), cs = [.int .i64 a0, .int .i64 b0, .slice ta TT.length tc] ∧ (-9223372036854775808 ≤ a0 ∧ a0 ≤ 9223372036854775807) ∧ (-9223372036854775808 ≤ b0 ∧ b0 ≤ 9223372036854775807) ∧ (∀ t ∈ TT, t.OkS m) ∧ ∀ ρ, SV.ok ρ W (fun _ => none) (.rs ta tc (turnsC TT)) := by
  obtain ⟨l, rfl, hok, hf, hm⟩ := h
  simp only [shLife, fitsL, Sh.fits] at hf
  obtain ⟨_, _, rfl, ⟨a, rfl, ha⟩, _, _, rfl, ⟨b, rfl, hb⟩, _, _, rfl, ⟨ta, tc, tl, rfl, ht⟩, rfl⟩ := hf
  simp only [cellsLe, Cell.le] at hm
  have htl := cellsLeR_iff.1 hm.2.2.1.2
  obtain ⟨TT, rfl, hTT⟩ := list_map_of (f := tnEnc) (p := Tn.OkS m) (l := tl) fun y hy => fit_turnS (ht y hy) (htl y hy)
  refine ⟨a, b, ta, tc, TT, by simp only [List.map_cons, List.map_nil, Cell.den, List.length_map], wfI ha, wfI hb, hTT, fun ρ => ?_⟩
  simp only [cellsO, Eng.Cell.ok] at hok
  exact Cell.sv_ok (c := .rs ta tc 4 (TT.map tnEnc)) (by simp only [Eng.Cell.ok]; exact hok.2.2.1)
end Go.Proofs.YtpaebopmppbjbaaGreatDoor
