/- The argument Life of the laws of package wal, opened. -/
import Derived.Test.YtpaebopmppbjbaaGreatDoorHnd
import Derived.Test.YtpaebopmppbjbaaGreatDoorWdM
set_option linter.unusedVariables false
set_option linter.unusedSimpArgs false
namespace Go.Proofs.YtpaebopmppbjbaaGreatDoor
open Go Go.RowKit Go.Le Go.Eng Go.ChangeShapes Go.WideShapes
def shPage : List Sh := [.int .i64, .int .u8, .int .i64]
def shFall : List Sh := [.int .i64, .sl 1 [.int .u64], .int .i64, .int .i64]
def shTurn : List Sh := [.sl 3 shPage, .bool, .sl 4 shFall, .bool]
def shLife : List Sh := [.int .i64, .int .i64, .sl 4 shTurn]
theorem wfI {n : Int} (h : (Lit.int .i64 n).wf = true) : -9223372036854775808 ≤ n ∧ n ≤ 9223372036854775807 := by
  simpa [Lit.wf, IntKind.min, IntKind.max, IntKind.signed, IntKind.bits] using h
theorem wfU8 {n : Int} (h : (Lit.int .u8 n).wf = true) : ∃ x : UInt8, n = (x.toNat : Int) := by
  have hr : 0 ≤ n ∧ n ≤ 255 := by simpa [Lit.wf, IntKind.min, IntKind.max, IntKind.signed, IntKind.bits] using h
  exact ⟨UInt8.ofNat n.toNat, by rw [UInt8.toNat_ofNat']; omega⟩
theorem wfU64 {n : Int} (h : (Lit.int .u64 n).wf = true) : ∃ x : Nat, n = (x : Int) ∧ x < 18446744073709551616 := by
  have hr : 0 ≤ n ∧ n ≤ 18446744073709551615 := by simpa [Lit.wf, IntKind.min, IntKind.max, IntKind.signed, IntKind.bits] using h
  exact ⟨n.toNat, by omega, by omega⟩
theorem fit_page {l : List Cell} (h : fitsL shPage l) : ∃ x : Pg0, l = pgEnc x ∧ (-9223372036854775808 ≤ x.1 ∧ x.1 ≤ 9223372036854775807) ∧ (-9223372036854775808 ≤ x.2.2 ∧ x.2.2 ≤ 9223372036854775807) := by
  simp only [shPage, fitsL, Sh.fits] at h
  obtain ⟨_, _, rfl, ⟨a, rfl, ha⟩, _, _, rfl, ⟨b, rfl, hb⟩, _, _, rfl, ⟨c, rfl, hc⟩, rfl⟩ := h
  obtain ⟨y, rfl⟩ := wfU8 hb
  exact ⟨(a, y, c), rfl, wfI ha, wfI hc⟩
theorem fit_fall {l : List Cell} (h : fitsL shFall l) : ∃ x : Fl, l = flEnc x ∧ (-9223372036854775808 ≤ x.step ∧ x.step ≤ 9223372036854775807) ∧ x.loss.ok := by
  simp only [shFall, fitsL, Sh.fits] at h
  obtain ⟨_, _, rfl, ⟨a, rfl, ha⟩, _, _, rfl, ⟨ka, kc, kl, rfl, hk⟩, _, _, rfl, ⟨c, rfl, hc⟩, _, _, rfl, ⟨d, rfl, hd⟩, rfl⟩ := h
  obtain ⟨ks, rfl, hks⟩ := list_map_of (f := kEnc) (p := fun x => x < 18446744073709551616) (l := kl) fun y hy => by
    obtain ⟨_, _, rfl, ⟨n, rfl, hn⟩, rfl⟩ := hk y hy
    obtain ⟨x, rfl, hx⟩ := wfU64 hn
    exact ⟨x, rfl, hx⟩
  exact ⟨⟨a, ka, kc, ⟨ks, c, d⟩⟩, rfl, wfI ha, ⟨wfI hc, wfI hd, hks⟩⟩
/-- what is known of a turn that came in -/
structure Tn.Ok (t : Tn) : Prop where
  T : ∀ x ∈ t.T, -9223372036854775808 ≤ x.1 ∧ x.1 ≤ 9223372036854775807
  F : ∀ x ∈ t.F, (-9223372036854775808 ≤ x.step ∧ x.step ≤ 9223372036854775807) ∧ x.loss.ok
theorem fit_turn {l : List Cell} (h : fitsL shTurn l) : ∃ t : Tn, l = tnEnc t ∧ t.Ok := by
  simp only [shTurn, fitsL, Sh.fits] at h
  obtain ⟨_, _, rfl, ⟨pa, pc, pl, rfl, hp⟩, _, _, rfl, ⟨cr, rfl⟩, _, _, rfl, ⟨fa, fc, fl, rfl, hf⟩, _, _, rfl, ⟨an, rfl⟩, rfl⟩ := h
  obtain ⟨T, rfl, hT⟩ := list_map_of (f := pgEnc) (p := fun x => -9223372036854775808 ≤ x.1 ∧ x.1 ≤ 9223372036854775807) (l := pl) fun y hy => by
    obtain ⟨x, hx, h1, -⟩ := fit_page (hp y hy)
    exact ⟨x, hx, h1⟩
  obtain ⟨F, rfl, hF⟩ := list_map_of (f := flEnc) (p := fun x => (-9223372036854775808 ≤ x.step ∧ x.step ≤ 9223372036854775807) ∧ x.loss.ok) (l := fl) fun y hy => by
    obtain ⟨x, hx, h1, h2⟩ := fit_fall (hf y hy)
    exact ⟨x, hx, h1, h2⟩
  exact ⟨⟨pa, pc, T, cr, fa, fc, F, an⟩, rfl, hT, hF⟩
theorem fit_life {W : World} {cs : List Value} (h : Opened W shLife cs) : ∃ (a0 b0 : Int) (ta : Option Addr) (tc : Nat) (TT : List Tn), cs = [.int .i64 a0, .int .i64 b0, .slice ta TT.length tc] ∧ (-9223372036854775808 ≤ a0 ∧ a0 ≤ 9223372036854775807) ∧ (-9223372036854775808 ≤ b0 ∧ b0 ≤ 9223372036854775807) ∧ (∀ t ∈ TT, t.Ok) ∧ ∀ ρ, SV.ok ρ W (fun _ => none) (.rs ta tc (turnsC TT)) := by
  obtain ⟨l, rfl, hok, hf⟩ := h
  simp only [shLife, fitsL, Sh.fits] at hf
  obtain ⟨_, _, rfl, ⟨a, rfl, ha⟩, _, _, rfl, ⟨b, rfl, hb⟩, _, _, rfl, ⟨ta, tc, tl, rfl, ht⟩, rfl⟩ := hf
  obtain ⟨TT, rfl, hTT⟩ := list_map_of (f := tnEnc) (p := Tn.Ok) (l := tl) fun y hy => fit_turn (ht y hy)
  refine ⟨a, b, ta, tc, TT, by simp only [List.map_cons, List.map_nil, Cell.den, List.length_map], wfI ha, wfI hb, hTT, fun ρ => ?_⟩
  simp only [cellsO, Eng.Cell.ok] at hok
  exact Cell.sv_ok (c := .rs ta tc 4 (TT.map tnEnc)) (by simp only [Eng.Cell.ok]; exact hok.2.2.1)
theorem sh_life : shOf 40 Tryz.prog 24 = some shLife := by kernel_rfl
theorem sh_page : shOf 40 Tryz.prog 26 = some shPage := by kernel_rfl
end Go.Proofs.YtpaebopmppbjbaaGreatDoor
