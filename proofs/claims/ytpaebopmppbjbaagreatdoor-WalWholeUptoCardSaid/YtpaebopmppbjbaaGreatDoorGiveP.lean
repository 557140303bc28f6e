/- WalGivesUp, the plain law: what Open and Clear make of an image whose log holds anything. No program in sight. -/
import Derived.Test.YtpaebopmppbjbaaGreatDoorWal26M
set_option linter.unusedVariables false
set_option linter.unusedSimpArgs false
namespace Go.Le
open Go Go.RowKit
set_option maxRecDepth 20000
theorem flat_at (c : Nat) (hc : 0 < c) : ∀ (L : List (List UInt8)) (i : Nat), (∀ x ∈ L, x.length = c) → L.flatten[i]? = (L[i / c]?).bind fun x => x[i % c]?
  | [], i, _ => by simp
  | x :: r, i, h => by
    have hx := h x (by simp)
    rw [List.flatten_cons]
    by_cases hi : i < c
    · rw [List.getElem?_append_left (by omega), Nat.div_eq_of_lt hi, Nat.mod_eq_of_lt hi]
      rfl
    · rw [List.getElem?_append_right (by omega), hx, flat_at c hc r (i - c) (fun y hy => h y (by simp [hy]))]
      have e1 : i / c = (i - c) / c + 1 := by rw [← Nat.add_div_right _ hc]; congr 1; omega
      have e2 : i % c = (i - c) % c := by rw [← Nat.add_mod_right (i - c) c]; congr 1; omega
      rw [e1, e2]
      rfl
/-- a marker that stands: of the first eight pages -/
def marker (b : Nat) : List UInt8 := UInt8.ofNat b :: (zrs 510 ++ [1])
theorem sec_at (l : List UInt8) (j r : Nat) (hr : r < 512) : (sec l j)[r]? = l[j * 512 + r]? := by
  unfold sec
  rw [List.getElem?_take, if_pos hr, List.getElem?_drop]
theorem sect0_at (r : Nat) (hr : r < 512) : sect0[r]? = some 0 := zrs_at 512 r hr
theorem give_room (n p more : Nat) (hp1 : 1 ≤ p) (hp2 : p ≤ 20) (hm : more ≤ 3) (hn : n = 4 * p + 1 + more) : roomOf n = p := by unfold roomOf; rw [if_neg (by omega)]; omega
end Go.Le
