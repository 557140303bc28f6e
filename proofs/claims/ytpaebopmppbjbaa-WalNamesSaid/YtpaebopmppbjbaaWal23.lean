/- What fixed() asks of the disk, reckoned. -/
import Derived.Test.YtpaebopmppbjbaaWal22
set_option linter.unusedVariables false
set_option linter.unusedSimpArgs false
namespace Go.Le
open Go Go.RowKit
def fixChk : Bool := match ioOpen (Dev.fresh (zrs (9 * 512))) with
  | (.ok x, D1) => x.1 == 2 && x.2 == false && D1.pend.length == 0 && (match ioCommit 2 [(1, pgBytes 1 7)] D1 with
    | (.ok _, D2) => D2.pend.length == 0 && D2.calls == 14 && D2.img.length == 4608 && D2.img.getD 3589 0 == 7 && (match ioPage 2 1 D2 with
      | (.ok pg, _) => pg.length == 1024 && pg.getD 5 0 == 7
      | _ => false)
    | _ => false)
  | _ => false
theorem fixChk_true : fixChk = true := by decide +kernel
theorem fixed_io : ∃ D1 D2 pg D3, ioOpen (Dev.fresh (zrs (9 * 512))) = (.ok (2, false), D1) ∧ D1.pend.length = 0 ∧ ioCommit 2 [(1, pgBytes 1 7)] D1 = (.ok (), D2) ∧ D2.pend.length = 0 ∧ D2.calls = 14 ∧ D2.img.length = 4608 ∧ D2.img.getD 3589 0 = 7 ∧ ioPage 2 1 D2 = (.ok pg, D3) ∧ pg.length = 1024 ∧ pg.getD 5 0 = 7 := by
  have h := fixChk_true
  unfold fixChk at h
  split at h
  · rename_i x D1 h1
    simp only [Bool.and_eq_true, beq_iff_eq] at h
    obtain ⟨⟨⟨h2, h3⟩, h4⟩, h5⟩ := h
    split at h5
    · rename_i u D2 h6
      simp only [Bool.and_eq_true, beq_iff_eq] at h5
      obtain ⟨⟨⟨⟨h7, h8⟩, h9⟩, h10⟩, h11⟩ := h5
      split at h11
      · rename_i pg D3 h12
        simp only [Bool.and_eq_true, beq_iff_eq] at h11
        obtain ⟨a, b⟩ := x
        simp only at h2 h3
        subst h2; subst h3
        exact ⟨D1, D2, pg, D3, h1, h4, h6, h7, h8, h9, h10, h12, h11.1, h11.2⟩
      · cases h11
    · cases h5
  · cases h
end Go.Le
