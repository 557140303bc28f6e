/- The argument Life of the laws of package wal, opened. -/
import Derived.Test.YtpaebopmppbjbaaGreatDoorHnd
import Derived.Test.YtpaebopmppbjbaaGreatDoorWdM
set_option linter.unusedVariables false
set_option linter.unusedSimpArgs false
namespace Go.Proofs.YtpaebopmppbjbaaGreatDoor
open Go Go.RowKit Go.Le Go.Eng Go.ChangeShapes Go.WideShapes
def shPage : List Sh := [.int .i64, .int .u8, .int .i64]
def shFall : List Sh := [.int .i64, .sl 1 [.int .u64], .int .i64, .int .i64]
def shTurn : List Sh := [.sl 3 shPage, .bool, .sl 4 shFall, .bool]
def shLife : List Sh := [.int .i64, .int .i64, .sl 4 shTurn]
theorem wfI {n : Int} (h : (Lit.int .i64 n).wf = true) : -9223372036854775808 ≤ n ∧ n ≤ 9223372036854775807 := by
  simpa [Lit.wf, IntKind.min, IntKind.max, IntKind.signed, IntKind.bits] using h
theorem wfU8 {n : Int} (h : (Lit.int .u8 n).wf = true) : ∃ x : UInt8, n = (x.toNat : Int) := by
  have hr : 0 ≤ n ∧ n ≤ 255 := by simpa [Lit.wf, IntKind.min, IntKind.max, IntKind.signed, IntKind.bits] using h
  exact ⟨UInt8.ofNat n.toNat, by rw [UInt8.toNat_ofNat']; omega⟩
theorem wfU64 {n : Int} (h : (Lit.int .u64 n).wf = true) : ∃ x : Nat, n = (x : Int) ∧ x < 18446744073709551616 := by
  have hr : 0 ≤ n ∧ n ≤ 18446744073709551615 := by simpa [Lit.wf, IntKind.min, IntKind.max, IntKind.signed, IntKind.bits] using h
  exact ⟨n.toNat, by omega, by omega⟩
theorem fit_page {l : List Cell} (h : fitsL shPage l) : ∃ x : Pg0, l = pgEnc x ∧ (-9223372036854775808 ≤ x.1 ∧ x.1 ≤ 9223372036854775807) ∧ (-9223372036854775808 ≤ x.2.2 ∧ x.2.2 ≤ 9223372036854775807) := by
  simp only [shPage, fitsL, Sh.fits] at h
  obtain ⟨_, _, rfl, ⟨a, rfl, ha⟩, _, _, rfl, ⟨b, rfl, hb⟩, _, _, rfl, ⟨c, rfl, hc⟩, rfl⟩ := h
  obtain ⟨y, rfl⟩ := wfU8 hb
  exact ⟨(a, y, c), rfl, wfI ha, wfI hc⟩
theorem fit_fall {l : List Cell} (h : fitsL shFall l) : ∃ x : Fl, l = flEnc x ∧ (-9223372036854775808 ≤ x.step ∧ x.step ≤ 9223372036854775807) ∧ x.loss.ok := by
  simp only [shFall, fitsL, Sh.fits] at h
  obtain ⟨_, _, rfl, ⟨a, rfl, ha⟩, _, _, rfl, ⟨ka, kc, kl, rfl, hk⟩, _, _, rfl, ⟨c, rfl, hc⟩, _, _, rfl, ⟨d, rfl, hd⟩, rfl⟩ := h
  obtain ⟨ks, rfl, hks⟩ := list_map_of (f := kEnc) (p := fun x => x < 18446744073709551616) (l := kl) fun y hy => by
    obtain ⟨_, _, rfl, ⟨n, rfl, hn⟩, rfl⟩ := hk y hy
    obtain ⟨x, rfl, hx⟩ := wfU64 hn
    exact ⟨x, rfl, hx⟩
  exact ⟨⟨a, ka, kc, ⟨ks, c, d⟩⟩, rfl, wfI ha, ⟨wfI hc, wfI hd, hks⟩⟩
/-- what is known of a turn that came in -/
structure Tn.Ok (t : Tn) : Prop where
  T : ∀ x ∈ t.T, -9223372036854775808 ≤ x.1 ∧ x.1 ≤ 9223372036854775807
  F : ∀ x ∈ t.F, (-9223372036854775808 ≤ x.step ∧ x.step ≤ 9223372036854775807) ∧ x.loss.ok
theorem sh_life : shOf 40 Tryz.prog 24 = some shLife := by kernel_rfl
end Go.Proofs.YtpaebopmppbjbaaGreatDoor
