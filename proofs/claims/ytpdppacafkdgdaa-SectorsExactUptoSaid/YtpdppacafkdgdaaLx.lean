/- The law's small functions, by the engine: sector, many, samePending, sameKeep, twin, spoil. -/
import Derived.Test.YtpdppacafkdgdaaRy
import Derived.Test.YtpdppacafkdgdaaLw1
set_option linter.unusedVariables false
set_option linter.unusedSimpArgs false
namespace Go.Proofs.Ytpdppacafkdgdaa
open Go Go.RowKit Go.Le Go.Eng
theorem take_set {α : Type} (L : List α) (k : Nat) (v : α) (h : k < L.length) : (L.set k v).take (k + 1) = L.take k ++ [v] := by
  rw [List.take_add_one, List.take_set, List.getElem?_set_self (by simpa using h), List.set_eq_of_length_le (by rw [List.length_take]; omega)]
  rfl
theorem take_at {α : Type} (L : List α) (k : Nat) (v : α) (h : L[k]? = some v) : L.take (k + 1) = L.take k ++ [v] := by
  rw [List.take_add_one, h]; rfl
set_option maxRecDepth 100000 in
set_option maxHeartbeats 1000000 in
theorem sector_con (P : Hp) (x : UInt8) (a : Option Addr) (cap : Nat) (b : List UInt8) (hb : b.length ≤ 9223372036854775807) :
    Con Try.prog [] 13 [.raw (.int .u8 (x.toNat : Int)), .bs a cap b] P [] fun y P' H' => ∃ a' c', y = .bs a' c' (secFill x b) ∧ H' = [] := by
  have hsl : (secFill x b).length = 512 := secFill_length x b
  have h1 : Con Try.prog [] 13 [.raw (.int .u8 (x.toNat : Int)), .bs a cap b] P [] fun y P' H' => y = .sl 40 1 0 (secFill x b).length 512 ∧ H' = [.row 40 5 512 (Eng.bytes (secFill x b))] := by
    refine Con.ren (con_of_fun T_good (by kernel_rfl) Try.call13 Try.func13 (by kernel_rfl) (by show 2 ≤ _; decide +kernel) ?_)
    obtain ⟨S, hS⟩ : ∃ S, S = secFill x b := ⟨_, rfl⟩
    rw [← hS] at hsl ⊢
    ((set_option smartUnfolding false in conv => whnf) <;> (repeat (first | exact True.intro | ((first | refine ⟨rfl, ?_⟩ | refine ar (by omega) (by omega) ?_ | refine ar8 (by omega) (by omega) ?_ | refine ix (by omega) ?_ | refine IdxVC.mk 0 rfl (by omega) ?_ | refine BytesVC.mk _ rfl ?_ | refine DivVC.mk (by omega) (by omega) ?_ | refine RemVC.mk (by omega) (by omega) ?_ | refine GhVC.mk _ _ _ rfl ?_); set_option smartUnfolding false in conv => whnf))))
    refine .mk 512 512 rfl rfl (Nat.le_refl _) (by show 512 * 1 ≤ _; omega) (by omega) ?_
    ((set_option smartUnfolding false in conv => whnf) <;> (repeat (first | exact True.intro | ((first | refine ⟨rfl, ?_⟩ | refine ar (by omega) (by omega) ?_ | refine ar8 (by omega) (by omega) ?_ | refine ix (by omega) ?_ | refine IdxVC.mk 0 rfl (by omega) ?_ | refine BytesVC.mk _ rfl ?_ | refine DivVC.mk (by omega) (by omega) ?_ | refine RemVC.mk (by omega) (by omega) ?_ | refine GhVC.mk _ _ _ rfl ?_); set_option smartUnfolding false in conv => whnf))))
    refine .mk (β := { y : Int × List UInt8 // ∃ k : Nat, y.1 = (k : Int) ∧ k ≤ 512 ∧ y.2.length = 512 ∧ y.2.take k = S.take k }) (fun ⟨(kk, L), _⟩ => ⟨[(6, .raw (.int .i64 kk)), (5, .sl 7 1 0 512 512), (1, .bs a cap b), (0, .raw (.int .u8 (x.toNat : Int)))], P, [.row 7 5 512 (Eng.bytes L)]⟩) (fun b => ((512 : Int) - b.1.1).toNat) ⟨(0, List.replicate 512 0), ⟨0, rfl, Nat.zero_le _, List.length_replicate .., rfl⟩⟩ ?_ ?_
    · ((set_option smartUnfolding false in conv => whnf) <;> (repeat (first | exact True.intro | ((first | refine ⟨rfl, ?_⟩ | refine ar (by omega) (by omega) ?_ | refine ar8 (by omega) (by omega) ?_ | refine ix (by omega) ?_ | refine IdxVC.mk 0 rfl (by omega) ?_ | refine BytesVC.mk _ rfl ?_ | refine DivVC.mk (by omega) (by omega) ?_ | refine RemVC.mk (by omega) (by omega) ?_ | refine GhVC.mk _ _ _ rfl ?_); set_option smartUnfolding false in conv => whnf))))
    · rintro ⟨⟨kk, L⟩, hk'⟩ -
      obtain ⟨k, hkk, hkm, hL, ht⟩ : ∃ k : Nat, kk = (k : Int) ∧ k ≤ 512 ∧ L.length = 512 ∧ L.take k = S.take k := hk'
      ((set_option smartUnfolding false in conv => whnf) <;> (repeat (first | exact True.intro | ((first | refine ⟨rfl, ?_⟩ | refine ar (by omega) (by omega) ?_ | refine ar8 (by omega) (by omega) ?_ | refine ix (by omega) ?_ | refine IdxVC.mk 0 rfl (by omega) ?_ | refine BytesVC.mk _ rfl ?_ | refine DivVC.mk (by omega) (by omega) ?_ | refine RemVC.mk (by omega) (by omega) ?_ | refine GhVC.mk _ _ _ rfl ?_); set_option smartUnfolding false in conv => whnf))))
      refine bxd (fun h => ?_) (fun h => ?_)
      · have hlt : k < 512 := by omega
        have hat := secFill_at x b k hlt
        rw [← hS] at hat
        obtain ⟨l0, hl0⟩ : ∃ y, L[k]? = some y := ⟨L[k], List.getElem?_eq_getElem (by omega)⟩
        ((set_option smartUnfolding false in conv => whnf) <;> (repeat (first | exact True.intro | ((first | refine ⟨rfl, ?_⟩ | refine ar (by omega) (by omega) ?_ | refine ar8 (by omega) (by omega) ?_ | refine ix (by omega) ?_ | refine IdxVC.mk 0 rfl (by omega) ?_ | refine BytesVC.mk _ rfl ?_ | refine DivVC.mk (by omega) (by omega) ?_ | refine RemVC.mk (by omega) (by omega) ?_ | refine GhVC.mk _ _ _ rfl ?_); set_option smartUnfolding false in conv => whnf))))
        refine IdxVC.mk k hkk hlt ?_
        ((set_option smartUnfolding false in conv => whnf) <;> (repeat (first | exact True.intro | ((first | refine ⟨rfl, ?_⟩ | refine ar (by omega) (by omega) ?_ | refine ar8 (by omega) (by omega) ?_ | refine ix (by omega) ?_ | refine IdxVC.mk 0 rfl (by omega) ?_ | refine BytesVC.mk _ rfl ?_ | refine DivVC.mk (by omega) (by omega) ?_ | refine RemVC.mk (by omega) (by omega) ?_ | refine GhVC.mk _ _ _ rfl ?_); set_option smartUnfolding false in conv => whnf))))
        refine .mk l0 x (by rw [Nat.zero_add]; exact hl0) rfl (Nat.le_refl _) ?_
        ((set_option smartUnfolding false in conv => whnf) <;> (repeat (first | exact True.intro | ((first | refine ⟨rfl, ?_⟩ | refine ar (by omega) (by omega) ?_ | refine ar8 (by omega) (by omega) ?_ | refine ix (by omega) ?_ | refine IdxVC.mk 0 rfl (by omega) ?_ | refine BytesVC.mk _ rfl ?_ | refine DivVC.mk (by omega) (by omega) ?_ | refine RemVC.mk (by omega) (by omega) ?_ | refine GhVC.mk _ _ _ rfl ?_); set_option smartUnfolding false in conv => whnf))))
        refine bxd (fun hkb => ?_) (fun hkb => ?_)
        · have hkl : k < b.length := by omega
          rw [dif_pos hkl] at hat
          obtain ⟨y, hy⟩ : ∃ y, b[k]? = some y := ⟨b[k], List.getElem?_eq_getElem hkl⟩
          have hy2 : S[k]? = some y := by rw [hat, ← hy, List.getElem?_eq_getElem hkl]
          ((set_option smartUnfolding false in conv => whnf) <;> (repeat (first | exact True.intro | ((first | refine ⟨rfl, ?_⟩ | refine ar (by omega) (by omega) ?_ | refine ar8 (by omega) (by omega) ?_ | refine ix (by omega) ?_ | refine IdxVC.mk 0 rfl (by omega) ?_ | refine BytesVC.mk _ rfl ?_ | refine DivVC.mk (by omega) (by omega) ?_ | refine RemVC.mk (by omega) (by omega) ?_ | refine GhVC.mk _ _ _ rfl ?_); set_option smartUnfolding false in conv => whnf))))
          refine IdxVC.mk k hkk hkl ?_
          ((set_option smartUnfolding false in conv => whnf) <;> (repeat (first | exact True.intro | ((first | refine ⟨rfl, ?_⟩ | refine ar (by omega) (by omega) ?_ | refine ar8 (by omega) (by omega) ?_ | refine ix (by omega) ?_ | refine IdxVC.mk 0 rfl (by omega) ?_ | refine BytesVC.mk _ rfl ?_ | refine DivVC.mk (by omega) (by omega) ?_ | refine RemVC.mk (by omega) (by omega) ?_ | refine GhVC.mk _ _ _ rfl ?_); set_option smartUnfolding false in conv => whnf))))
          refine .mk y hy ?_
          ((set_option smartUnfolding false in conv => whnf) <;> (repeat (first | exact True.intro | ((first | refine ⟨rfl, ?_⟩ | refine ar (by omega) (by omega) ?_ | refine ar8 (by omega) (by omega) ?_ | refine ix (by omega) ?_ | refine IdxVC.mk 0 rfl (by omega) ?_ | refine BytesVC.mk _ rfl ?_ | refine DivVC.mk (by omega) (by omega) ?_ | refine RemVC.mk (by omega) (by omega) ?_ | refine GhVC.mk _ _ _ rfl ?_); set_option smartUnfolding false in conv => whnf))))
          refine IdxVC.mk k hkk hlt ?_
          ((set_option smartUnfolding false in conv => whnf) <;> (repeat (first | exact True.intro | ((first | refine ⟨rfl, ?_⟩ | refine ar (by omega) (by omega) ?_ | refine ar8 (by omega) (by omega) ?_ | refine ix (by omega) ?_ | refine IdxVC.mk 0 rfl (by omega) ?_ | refine BytesVC.mk _ rfl ?_ | refine DivVC.mk (by omega) (by omega) ?_ | refine RemVC.mk (by omega) (by omega) ?_ | refine GhVC.mk _ _ _ rfl ?_); set_option smartUnfolding false in conv => whnf))))
          refine .mk x y (by rw [Nat.zero_add]; show (L.set k x)[k]? = some x; exact List.getElem?_set_self (by omega)) rfl (Nat.le_refl _) ?_
          ((set_option smartUnfolding false in conv => whnf) <;> (repeat (first | exact True.intro | ((first | refine ⟨rfl, ?_⟩ | refine ar (by omega) (by omega) ?_ | refine ar8 (by omega) (by omega) ?_ | refine ix (by omega) ?_ | refine IdxVC.mk 0 rfl (by omega) ?_ | refine BytesVC.mk _ rfl ?_ | refine DivVC.mk (by omega) (by omega) ?_ | refine RemVC.mk (by omega) (by omega) ?_ | refine GhVC.mk _ _ _ rfl ?_); set_option smartUnfolding false in conv => whnf))))
          refine ⟨⟨(kk + 1, (L.set (0 + k) x).set (0 + k) y), ⟨k + 1, by omega, by omega, by simp [hL], by rw [Nat.zero_add, take_set _ _ _ (by simp; omega), List.take_set, List.set_eq_of_length_le (by simp; omega), ht, take_at S k y hy2]⟩⟩, show ((512 : Int) - (kk + 1)).toNat < ((512 : Int) - kk).toNat by omega, ?_⟩
          ((set_option smartUnfolding false in conv => whnf) <;> (repeat (first | exact True.intro | ((first | refine ⟨rfl, ?_⟩ | refine ar (by omega) (by omega) ?_ | refine ar8 (by omega) (by omega) ?_ | refine ix (by omega) ?_ | refine IdxVC.mk 0 rfl (by omega) ?_ | refine BytesVC.mk _ rfl ?_ | refine DivVC.mk (by omega) (by omega) ?_ | refine RemVC.mk (by omega) (by omega) ?_ | refine GhVC.mk _ _ _ rfl ?_); set_option smartUnfolding false in conv => whnf))))
        · have hkl : ¬ k < b.length := by omega
          rw [dif_neg hkl] at hat
          ((set_option smartUnfolding false in conv => whnf) <;> (repeat (first | exact True.intro | ((first | refine ⟨rfl, ?_⟩ | refine ar (by omega) (by omega) ?_ | refine ar8 (by omega) (by omega) ?_ | refine ix (by omega) ?_ | refine IdxVC.mk 0 rfl (by omega) ?_ | refine BytesVC.mk _ rfl ?_ | refine DivVC.mk (by omega) (by omega) ?_ | refine RemVC.mk (by omega) (by omega) ?_ | refine GhVC.mk _ _ _ rfl ?_); set_option smartUnfolding false in conv => whnf))))
          refine ⟨⟨(kk + 1, L.set (0 + k) x), ⟨k + 1, by omega, by omega, by simp [hL], by rw [Nat.zero_add, take_set _ _ _ (by omega), ht, take_at S k x hat]⟩⟩, show ((512 : Int) - (kk + 1)).toNat < ((512 : Int) - kk).toNat by omega, ?_⟩
          ((set_option smartUnfolding false in conv => whnf) <;> (repeat (first | exact True.intro | ((first | refine ⟨rfl, ?_⟩ | refine ar (by omega) (by omega) ?_ | refine ar8 (by omega) (by omega) ?_ | refine ix (by omega) ?_ | refine IdxVC.mk 0 rfl (by omega) ?_ | refine BytesVC.mk _ rfl ?_ | refine DivVC.mk (by omega) (by omega) ?_ | refine RemVC.mk (by omega) (by omega) ?_ | refine GhVC.mk _ _ _ rfl ?_); set_option smartUnfolding false in conv => whnf))))
      · have hk5 : k = 512 := by omega
        have hLS : L = S := by rw [hk5, List.take_of_length_le (by omega), List.take_of_length_le (by omega)] at ht; exact ht
        ((set_option smartUnfolding false in conv => whnf) <;> (repeat (first | exact True.intro | ((first | refine ⟨rfl, ?_⟩ | refine ar (by omega) (by omega) ?_ | refine ar8 (by omega) (by omega) ?_ | refine ix (by omega) ?_ | refine IdxVC.mk 0 rfl (by omega) ?_ | refine BytesVC.mk _ rfl ?_ | refine DivVC.mk (by omega) (by omega) ?_ | refine RemVC.mk (by omega) (by omega) ?_ | refine GhVC.mk _ _ _ rfl ?_); set_option smartUnfolding false in conv => whnf))))
        refine ⟨[(7, 40)], rfl, rfl, ?_⟩
        ((set_option smartUnfolding false in conv => whnf) <;> (repeat (first | exact True.intro | ((first | refine ⟨rfl, ?_⟩ | refine ar (by omega) (by omega) ?_ | refine ar8 (by omega) (by omega) ?_ | refine ix (by omega) ?_ | refine IdxVC.mk 0 rfl (by omega) ?_ | refine BytesVC.mk _ rfl ?_ | refine DivVC.mk (by omega) (by omega) ?_ | refine RemVC.mk (by omega) (by omega) ?_ | refine GhVC.mk _ _ _ rfl ?_); set_option smartUnfolding false in conv => whnf))))
        rw [hsl, hLS]
        exact ⟨rfl, rfl⟩
  refine (Con.freeze h1 (fun l' _ r => l' = secFill x b ∧ r = []) ?_).mono ?_
  · rintro y P' H' ⟨rfl, rfl⟩
    exact ⟨40, _, 512, _, [], rfl, rfl, rfl, rfl⟩
  · rintro y P' H' ⟨a, c, l', P2, rfl, -, rfl, rfl⟩
    exact ⟨a, c, rfl, rfl⟩
set_option maxRecDepth 100000 in
theorem many_con (P : Hp) (x : UInt8) : Con Try.prog [] 59 [.raw (.int .u8 (x.toNat : Int))] P [] fun y P' H' => ∃ a' c', y = .bs a' c' (List.replicate 80 x) ∧ H' = [] := by
  have hsl : (List.replicate 80 x).length = 80 := List.length_replicate ..
  have h1 : Con Try.prog [] 59 [.raw (.int .u8 (x.toNat : Int))] P [] fun y P' H' => y = .sl 40 1 0 (List.replicate 80 x).length 80 ∧ H' = [.row 40 5 80 (Eng.bytes (List.replicate 80 x))] := by
    refine Con.ren (con_of_fun T_good (by kernel_rfl) Try.call59 Try.func59 (by kernel_rfl) (by show 1 ≤ _; decide +kernel) ?_)
    obtain ⟨S, hS⟩ : ∃ S, S = List.replicate 80 x := ⟨_, rfl⟩
    rw [← hS] at hsl ⊢
    ((set_option smartUnfolding false in conv => whnf) <;> (repeat (first | exact True.intro | ((first | refine ⟨rfl, ?_⟩ | refine ar (by omega) (by omega) ?_ | refine ar8 (by omega) (by omega) ?_ | refine ix (by omega) ?_ | refine IdxVC.mk 0 rfl (by omega) ?_ | refine BytesVC.mk _ rfl ?_ | refine DivVC.mk (by omega) (by omega) ?_ | refine RemVC.mk (by omega) (by omega) ?_ | refine GhVC.mk _ _ _ rfl ?_); set_option smartUnfolding false in conv => whnf))))
    refine .mk 80 80 rfl rfl (Nat.le_refl _) (by show 80 * 1 ≤ _; omega) (by omega) ?_
    ((set_option smartUnfolding false in conv => whnf) <;> (repeat (first | exact True.intro | ((first | refine ⟨rfl, ?_⟩ | refine ar (by omega) (by omega) ?_ | refine ar8 (by omega) (by omega) ?_ | refine ix (by omega) ?_ | refine IdxVC.mk 0 rfl (by omega) ?_ | refine BytesVC.mk _ rfl ?_ | refine DivVC.mk (by omega) (by omega) ?_ | refine RemVC.mk (by omega) (by omega) ?_ | refine GhVC.mk _ _ _ rfl ?_); set_option smartUnfolding false in conv => whnf))))
    refine .mk (β := { y : Int × List UInt8 // ∃ k : Nat, y.1 = (k : Int) ∧ k ≤ 80 ∧ y.2.length = 80 ∧ y.2.take k = S.take k }) (fun ⟨(kk, L), _⟩ => ⟨[(4, .raw (.int .i64 kk)), (3, .sl 5 1 0 80 80), (0, .raw (.int .u8 (x.toNat : Int)))], P, [.row 5 5 80 (Eng.bytes L)]⟩) (fun b => ((80 : Int) - b.1.1).toNat) ⟨(0, List.replicate 80 0), ⟨0, rfl, Nat.zero_le _, List.length_replicate .., rfl⟩⟩ ?_ ?_
    · ((set_option smartUnfolding false in conv => whnf) <;> (repeat (first | exact True.intro | ((first | refine ⟨rfl, ?_⟩ | refine ar (by omega) (by omega) ?_ | refine ar8 (by omega) (by omega) ?_ | refine ix (by omega) ?_ | refine IdxVC.mk 0 rfl (by omega) ?_ | refine BytesVC.mk _ rfl ?_ | refine DivVC.mk (by omega) (by omega) ?_ | refine RemVC.mk (by omega) (by omega) ?_ | refine GhVC.mk _ _ _ rfl ?_); set_option smartUnfolding false in conv => whnf))))
    · rintro ⟨⟨kk, L⟩, hk'⟩ -
      obtain ⟨k, hkk, hkm, hL, ht⟩ : ∃ k : Nat, kk = (k : Int) ∧ k ≤ 80 ∧ L.length = 80 ∧ L.take k = S.take k := hk'
      ((set_option smartUnfolding false in conv => whnf) <;> (repeat (first | exact True.intro | ((first | refine ⟨rfl, ?_⟩ | refine ar (by omega) (by omega) ?_ | refine ar8 (by omega) (by omega) ?_ | refine ix (by omega) ?_ | refine IdxVC.mk 0 rfl (by omega) ?_ | refine BytesVC.mk _ rfl ?_ | refine DivVC.mk (by omega) (by omega) ?_ | refine RemVC.mk (by omega) (by omega) ?_ | refine GhVC.mk _ _ _ rfl ?_); set_option smartUnfolding false in conv => whnf))))
      refine bxd (fun h => ?_) (fun h => ?_)
      · have hlt : k < 80 := by omega
        have hat : S[k]? = some x := by rw [hS, List.getElem?_replicate, if_pos hlt]
        obtain ⟨l0, hl0⟩ : ∃ y, L[k]? = some y := ⟨L[k], List.getElem?_eq_getElem (by omega)⟩
        ((set_option smartUnfolding false in conv => whnf) <;> (repeat (first | exact True.intro | ((first | refine ⟨rfl, ?_⟩ | refine ar (by omega) (by omega) ?_ | refine ar8 (by omega) (by omega) ?_ | refine ix (by omega) ?_ | refine IdxVC.mk 0 rfl (by omega) ?_ | refine BytesVC.mk _ rfl ?_ | refine DivVC.mk (by omega) (by omega) ?_ | refine RemVC.mk (by omega) (by omega) ?_ | refine GhVC.mk _ _ _ rfl ?_); set_option smartUnfolding false in conv => whnf))))
        refine IdxVC.mk k hkk hlt ?_
        ((set_option smartUnfolding false in conv => whnf) <;> (repeat (first | exact True.intro | ((first | refine ⟨rfl, ?_⟩ | refine ar (by omega) (by omega) ?_ | refine ar8 (by omega) (by omega) ?_ | refine ix (by omega) ?_ | refine IdxVC.mk 0 rfl (by omega) ?_ | refine BytesVC.mk _ rfl ?_ | refine DivVC.mk (by omega) (by omega) ?_ | refine RemVC.mk (by omega) (by omega) ?_ | refine GhVC.mk _ _ _ rfl ?_); set_option smartUnfolding false in conv => whnf))))
        refine .mk l0 x (by rw [Nat.zero_add]; exact hl0) rfl (Nat.le_refl _) ?_
        ((set_option smartUnfolding false in conv => whnf) <;> (repeat (first | exact True.intro | ((first | refine ⟨rfl, ?_⟩ | refine ar (by omega) (by omega) ?_ | refine ar8 (by omega) (by omega) ?_ | refine ix (by omega) ?_ | refine IdxVC.mk 0 rfl (by omega) ?_ | refine BytesVC.mk _ rfl ?_ | refine DivVC.mk (by omega) (by omega) ?_ | refine RemVC.mk (by omega) (by omega) ?_ | refine GhVC.mk _ _ _ rfl ?_); set_option smartUnfolding false in conv => whnf))))
        refine ⟨⟨(kk + 1, L.set (0 + k) x), ⟨k + 1, by omega, by omega, by simp [hL], by rw [Nat.zero_add, take_set _ _ _ (by omega), ht, take_at S k x hat]⟩⟩, show ((80 : Int) - (kk + 1)).toNat < ((80 : Int) - kk).toNat by omega, ?_⟩
        ((set_option smartUnfolding false in conv => whnf) <;> (repeat (first | exact True.intro | ((first | refine ⟨rfl, ?_⟩ | refine ar (by omega) (by omega) ?_ | refine ar8 (by omega) (by omega) ?_ | refine ix (by omega) ?_ | refine IdxVC.mk 0 rfl (by omega) ?_ | refine BytesVC.mk _ rfl ?_ | refine DivVC.mk (by omega) (by omega) ?_ | refine RemVC.mk (by omega) (by omega) ?_ | refine GhVC.mk _ _ _ rfl ?_); set_option smartUnfolding false in conv => whnf))))
      · have hk5 : k = 80 := by omega
        have hLS : L = S := by rw [hk5, List.take_of_length_le (by omega), List.take_of_length_le (by omega)] at ht; exact ht
        ((set_option smartUnfolding false in conv => whnf) <;> (repeat (first | exact True.intro | ((first | refine ⟨rfl, ?_⟩ | refine ar (by omega) (by omega) ?_ | refine ar8 (by omega) (by omega) ?_ | refine ix (by omega) ?_ | refine IdxVC.mk 0 rfl (by omega) ?_ | refine BytesVC.mk _ rfl ?_ | refine DivVC.mk (by omega) (by omega) ?_ | refine RemVC.mk (by omega) (by omega) ?_ | refine GhVC.mk _ _ _ rfl ?_); set_option smartUnfolding false in conv => whnf))))
        refine ⟨[(5, 40)], rfl, rfl, ?_⟩
        ((set_option smartUnfolding false in conv => whnf) <;> (repeat (first | exact True.intro | ((first | refine ⟨rfl, ?_⟩ | refine ar (by omega) (by omega) ?_ | refine ar8 (by omega) (by omega) ?_ | refine ix (by omega) ?_ | refine IdxVC.mk 0 rfl (by omega) ?_ | refine BytesVC.mk _ rfl ?_ | refine DivVC.mk (by omega) (by omega) ?_ | refine RemVC.mk (by omega) (by omega) ?_ | refine GhVC.mk _ _ _ rfl ?_); set_option smartUnfolding false in conv => whnf))))
        rw [hsl, hLS]
        exact ⟨rfl, rfl⟩
  refine (Con.freeze h1 (fun l' _ r => l' = List.replicate 80 x ∧ r = []) ?_).mono ?_
  · rintro y P' H' ⟨rfl, rfl⟩
    exact ⟨40, _, 80, _, [], rfl, rfl, rfl, rfl⟩
  · rintro y P' H' ⟨a, c, l', P2, rfl, -, rfl, rfl⟩
    exact ⟨a, c, rfl, rfl⟩
theorem sameP_con (P : Hp) (a b : Option Addr) (ca cb : Nat) (zs ys : List Pr) (h : zs.map Pr.p = ys.map Pr.p) (hzl : zs.length ≤ 1000000) :
    Con Try.prog [20, 302] 26 [.rs a ca (pdC zs), .rs b cb (pdC ys)] P [] fun x P' H' => x = .raw (.bool true) ∧ P' = P ∧ H' = [] := by
  have hlen : zs.length = ys.length := by simpa using congrArg List.length h
  refine Con.sub (con_of_fun T_good (by kernel_rfl) Try.call26 Try.func26 (by kernel_rfl) (by show 2 ≤ _; decide +kernel) ?_)
  ((set_option smartUnfolding false in conv => whnf) <;> (repeat (first | exact True.intro | ((first | refine ⟨rfl, ?_⟩ | refine ar (by omega) (by omega) ?_ | refine ar8 (by omega) (by omega) ?_ | refine ix (by omega) ?_ | refine IdxVC.mk 0 rfl (by omega) ?_ | refine BytesVC.mk _ rfl ?_ | refine DivVC.mk (by omega) (by omega) ?_ | refine RemVC.mk (by omega) (by omega) ?_ | refine GhVC.mk _ _ _ rfl ?_); set_option smartUnfolding false in conv => whnf))))
  refine bxn (fun h => (h (by show (zs.length : Int) = (ys.length : Int); omega)).elim) (fun _ => ?_)
  ((set_option smartUnfolding false in conv => whnf) <;> (repeat (first | exact True.intro | ((first | refine ⟨rfl, ?_⟩ | refine ar (by omega) (by omega) ?_ | refine ar8 (by omega) (by omega) ?_ | refine ix (by omega) ?_ | refine IdxVC.mk 0 rfl (by omega) ?_ | refine BytesVC.mk _ rfl ?_ | refine DivVC.mk (by omega) (by omega) ?_ | refine RemVC.mk (by omega) (by omega) ?_ | refine GhVC.mk _ _ _ rfl ?_); set_option smartUnfolding false in conv => whnf))))
  refine .mk (β := { k : Int // 0 ≤ k ∧ k ≤ zs.length }) (fun ⟨kk, _⟩ => ⟨[(5, .raw (.int .i64 kk)), (1, .rs b cb (pdC ys)), (0, .rs a ca (pdC zs))], P, []⟩) (fun b => ((zs.length : Int) - b.1).toNat) ⟨0, by omega⟩ ?_ ?_
  · ((set_option smartUnfolding false in conv => whnf) <;> (repeat (first | exact True.intro | ((first | refine ⟨rfl, ?_⟩ | refine ar (by omega) (by omega) ?_ | refine ar8 (by omega) (by omega) ?_ | refine ix (by omega) ?_ | refine IdxVC.mk 0 rfl (by omega) ?_ | refine BytesVC.mk _ rfl ?_ | refine DivVC.mk (by omega) (by omega) ?_ | refine RemVC.mk (by omega) (by omega) ?_ | refine GhVC.mk _ _ _ rfl ?_); set_option smartUnfolding false in conv => whnf))))
  · rintro ⟨kk, hk0, hk1⟩ -
    ((set_option smartUnfolding false in conv => whnf) <;> (repeat (first | exact True.intro | ((first | refine ⟨rfl, ?_⟩ | refine ar (by omega) (by omega) ?_ | refine ar8 (by omega) (by omega) ?_ | refine ix (by omega) ?_ | refine IdxVC.mk 0 rfl (by omega) ?_ | refine BytesVC.mk _ rfl ?_ | refine DivVC.mk (by omega) (by omega) ?_ | refine RemVC.mk (by omega) (by omega) ?_ | refine GhVC.mk _ _ _ rfl ?_); set_option smartUnfolding false in conv => whnf))))
    refine bxd (fun h1 => ?_) (fun h1 => ?_)
    · obtain ⟨k, rfl⟩ : ∃ k : Nat, kk = (k : Int) := ⟨kk.toNat, by omega⟩
      have hkz : k < zs.length := by have h1 : (k : Int) < (zs.length : Int) := h1; omega
      obtain ⟨z, hz1⟩ : ∃ z, zs[k]? = some z := ⟨zs[k], List.getElem?_eq_getElem hkz⟩
      obtain ⟨y, hy1⟩ : ∃ y, ys[k]? = some y := ⟨ys[k]'(by omega), List.getElem?_eq_getElem _⟩
      have hzy : z.p = y.p := by
        have := congrArg (fun l => l[k]?) h
        simp only [List.getElem?_map, hz1, hy1, Option.map_some, Option.some.injEq] at this
        exact this
      have e1 : z.1 = y.1 := show z.p.1 = y.p.1 by rw [hzy]
      have e2 : z.2.2.2 = y.2.2.2 := show z.p.2 = y.p.2 by rw [hzy]
      ((set_option smartUnfolding false in conv => whnf) <;> (repeat (first | exact True.intro | ((first | refine ⟨rfl, ?_⟩ | refine ar (by omega) (by omega) ?_ | refine ar8 (by omega) (by omega) ?_ | refine ix (by omega) ?_ | refine IdxVC.mk 0 rfl (by omega) ?_ | refine BytesVC.mk _ rfl ?_ | refine DivVC.mk (by omega) (by omega) ?_ | refine RemVC.mk (by omega) (by omega) ?_ | refine GhVC.mk _ _ _ rfl ?_); set_option smartUnfolding false in conv => whnf))))
      refine ⟨show 0 < 2 by omega, ?_⟩
      refine IdxVC.mk k rfl hkz ?_
      ((set_option smartUnfolding false in conv => whnf) <;> (repeat (first | exact True.intro | ((first | refine ⟨rfl, ?_⟩ | refine ar (by omega) (by omega) ?_ | refine ar8 (by omega) (by omega) ?_ | refine ix (by omega) ?_ | refine IdxVC.mk 0 rfl (by omega) ?_ | refine BytesVC.mk _ rfl ?_ | refine DivVC.mk (by omega) (by omega) ?_ | refine RemVC.mk (by omega) (by omega) ?_ | refine GhVC.mk _ _ _ rfl ?_); set_option smartUnfolding false in conv => whnf))))
      refine ⟨show 0 < 2 by omega, ?_⟩
      ((set_option smartUnfolding false in conv => whnf) <;> (repeat (first | exact True.intro | ((first | refine ⟨rfl, ?_⟩ | refine ar (by omega) (by omega) ?_ | refine ar8 (by omega) (by omega) ?_ | refine ix (by omega) ?_ | refine IdxVC.mk 0 rfl (by omega) ?_ | refine BytesVC.mk _ rfl ?_ | refine DivVC.mk (by omega) (by omega) ?_ | refine RemVC.mk (by omega) (by omega) ?_ | refine GhVC.mk _ _ _ rfl ?_); set_option smartUnfolding false in conv => whnf))))
      refine .mk z hz1 ?_
      ((set_option smartUnfolding false in conv => whnf) <;> (repeat (first | exact True.intro | ((first | refine ⟨rfl, ?_⟩ | refine ar (by omega) (by omega) ?_ | refine ar8 (by omega) (by omega) ?_ | refine ix (by omega) ?_ | refine IdxVC.mk 0 rfl (by omega) ?_ | refine BytesVC.mk _ rfl ?_ | refine DivVC.mk (by omega) (by omega) ?_ | refine RemVC.mk (by omega) (by omega) ?_ | refine GhVC.mk _ _ _ rfl ?_); set_option smartUnfolding false in conv => whnf))))
      refine ⟨show 0 < 2 by omega, ?_⟩
      refine IdxVC.mk k rfl (by show k < ys.length; omega) ?_
      ((set_option smartUnfolding false in conv => whnf) <;> (repeat (first | exact True.intro | ((first | refine ⟨rfl, ?_⟩ | refine ar (by omega) (by omega) ?_ | refine ar8 (by omega) (by omega) ?_ | refine ix (by omega) ?_ | refine IdxVC.mk 0 rfl (by omega) ?_ | refine BytesVC.mk _ rfl ?_ | refine DivVC.mk (by omega) (by omega) ?_ | refine RemVC.mk (by omega) (by omega) ?_ | refine GhVC.mk _ _ _ rfl ?_); set_option smartUnfolding false in conv => whnf))))
      refine ⟨show 0 < 2 by omega, ?_⟩
      ((set_option smartUnfolding false in conv => whnf) <;> (repeat (first | exact True.intro | ((first | refine ⟨rfl, ?_⟩ | refine ar (by omega) (by omega) ?_ | refine ar8 (by omega) (by omega) ?_ | refine ix (by omega) ?_ | refine IdxVC.mk 0 rfl (by omega) ?_ | refine BytesVC.mk _ rfl ?_ | refine DivVC.mk (by omega) (by omega) ?_ | refine RemVC.mk (by omega) (by omega) ?_ | refine GhVC.mk _ _ _ rfl ?_); set_option smartUnfolding false in conv => whnf))))
      refine .mk y hy1 ?_
      ((set_option smartUnfolding false in conv => whnf) <;> (repeat (first | exact True.intro | ((first | refine ⟨rfl, ?_⟩ | refine ar (by omega) (by omega) ?_ | refine ar8 (by omega) (by omega) ?_ | refine ix (by omega) ?_ | refine IdxVC.mk 0 rfl (by omega) ?_ | refine BytesVC.mk _ rfl ?_ | refine DivVC.mk (by omega) (by omega) ?_ | refine RemVC.mk (by omega) (by omega) ?_ | refine GhVC.mk _ _ _ rfl ?_); set_option smartUnfolding false in conv => whnf))))
      refine bxn (fun h => (h (by show (z.1 : Int) = (y.1 : Int); omega)).elim) (fun _ => ?_)
      ((set_option smartUnfolding false in conv => whnf) <;> (repeat (first | exact True.intro | ((first | refine ⟨rfl, ?_⟩ | refine ar (by omega) (by omega) ?_ | refine ar8 (by omega) (by omega) ?_ | refine ix (by omega) ?_ | refine IdxVC.mk 0 rfl (by omega) ?_ | refine BytesVC.mk _ rfl ?_ | refine DivVC.mk (by omega) (by omega) ?_ | refine RemVC.mk (by omega) (by omega) ?_ | refine GhVC.mk _ _ _ rfl ?_); set_option smartUnfolding false in conv => whnf))))
      refine ⟨show 0 < 2 by omega, ?_⟩
      refine IdxVC.mk k rfl hkz ?_
      ((set_option smartUnfolding false in conv => whnf) <;> (repeat (first | exact True.intro | ((first | refine ⟨rfl, ?_⟩ | refine ar (by omega) (by omega) ?_ | refine ar8 (by omega) (by omega) ?_ | refine ix (by omega) ?_ | refine IdxVC.mk 0 rfl (by omega) ?_ | refine BytesVC.mk _ rfl ?_ | refine DivVC.mk (by omega) (by omega) ?_ | refine RemVC.mk (by omega) (by omega) ?_ | refine GhVC.mk _ _ _ rfl ?_); set_option smartUnfolding false in conv => whnf))))
      refine ⟨show 1 < 2 by omega, ?_⟩
      ((set_option smartUnfolding false in conv => whnf) <;> (repeat (first | exact True.intro | ((first | refine ⟨rfl, ?_⟩ | refine ar (by omega) (by omega) ?_ | refine ar8 (by omega) (by omega) ?_ | refine ix (by omega) ?_ | refine IdxVC.mk 0 rfl (by omega) ?_ | refine BytesVC.mk _ rfl ?_ | refine DivVC.mk (by omega) (by omega) ?_ | refine RemVC.mk (by omega) (by omega) ?_ | refine GhVC.mk _ _ _ rfl ?_); set_option smartUnfolding false in conv => whnf))))
      refine .mk z hz1 ?_
      ((set_option smartUnfolding false in conv => whnf) <;> (repeat (first | exact True.intro | ((first | refine ⟨rfl, ?_⟩ | refine ar (by omega) (by omega) ?_ | refine ar8 (by omega) (by omega) ?_ | refine ix (by omega) ?_ | refine IdxVC.mk 0 rfl (by omega) ?_ | refine BytesVC.mk _ rfl ?_ | refine DivVC.mk (by omega) (by omega) ?_ | refine RemVC.mk (by omega) (by omega) ?_ | refine GhVC.mk _ _ _ rfl ?_); set_option smartUnfolding false in conv => whnf))))
      refine ⟨show 0 < 2 by omega, ?_⟩
      refine IdxVC.mk k rfl (by show k < ys.length; omega) ?_
      ((set_option smartUnfolding false in conv => whnf) <;> (repeat (first | exact True.intro | ((first | refine ⟨rfl, ?_⟩ | refine ar (by omega) (by omega) ?_ | refine ar8 (by omega) (by omega) ?_ | refine ix (by omega) ?_ | refine IdxVC.mk 0 rfl (by omega) ?_ | refine BytesVC.mk _ rfl ?_ | refine DivVC.mk (by omega) (by omega) ?_ | refine RemVC.mk (by omega) (by omega) ?_ | refine GhVC.mk _ _ _ rfl ?_); set_option smartUnfolding false in conv => whnf))))
      refine ⟨show 1 < 2 by omega, ?_⟩
      ((set_option smartUnfolding false in conv => whnf) <;> (repeat (first | exact True.intro | ((first | refine ⟨rfl, ?_⟩ | refine ar (by omega) (by omega) ?_ | refine ar8 (by omega) (by omega) ?_ | refine ix (by omega) ?_ | refine IdxVC.mk 0 rfl (by omega) ?_ | refine BytesVC.mk _ rfl ?_ | refine DivVC.mk (by omega) (by omega) ?_ | refine RemVC.mk (by omega) (by omega) ?_ | refine GhVC.mk _ _ _ rfl ?_); set_option smartUnfolding false in conv => whnf))))
      refine .mk y hy1 ?_
      ((set_option smartUnfolding false in conv => whnf) <;> (repeat (first | exact True.intro | ((first | refine ⟨rfl, ?_⟩ | refine ar (by omega) (by omega) ?_ | refine ar8 (by omega) (by omega) ?_ | refine ix (by omega) ?_ | refine IdxVC.mk 0 rfl (by omega) ?_ | refine BytesVC.mk _ rfl ?_ | refine DivVC.mk (by omega) (by omega) ?_ | refine RemVC.mk (by omega) (by omega) ?_ | refine GhVC.mk _ _ _ rfl ?_); set_option smartUnfolding false in conv => whnf))))
      refine And.intro ?_ ?_ <;> ((set_option smartUnfolding false in conv => whnf) <;> (repeat (first | exact True.intro | ((first | refine ⟨rfl, ?_⟩ | refine ar (by omega) (by omega) ?_ | refine ar8 (by omega) (by omega) ?_ | refine ix (by omega) ?_ | refine IdxVC.mk 0 rfl (by omega) ?_ | refine BytesVC.mk _ rfl ?_ | refine DivVC.mk (by omega) (by omega) ?_ | refine RemVC.mk (by omega) (by omega) ?_ | refine GhVC.mk _ _ _ rfl ?_); set_option smartUnfolding false in conv => whnf))))
      all_goals
        refine And.intro (by ((set_option smartUnfolding false in conv => whnf) <;> (repeat (first | exact True.intro | ((first | refine ⟨rfl, ?_⟩ | refine ar (by omega) (by omega) ?_ | refine ar8 (by omega) (by omega) ?_ | refine ix (by omega) ?_ | refine IdxVC.mk 0 rfl (by omega) ?_ | refine BytesVC.mk _ rfl ?_ | refine DivVC.mk (by omega) (by omega) ?_ | refine RemVC.mk (by omega) (by omega) ?_ | refine GhVC.mk _ _ _ rfl ?_); set_option smartUnfolding false in conv => whnf)))); first | exact .mk y hy1 rfl | exact .mk z hz1 rfl) ?_
        ((set_option smartUnfolding false in conv => whnf) <;> (repeat (first | exact True.intro | ((first | refine ⟨rfl, ?_⟩ | refine ar (by omega) (by omega) ?_ | refine ar8 (by omega) (by omega) ?_ | refine ix (by omega) ?_ | refine IdxVC.mk 0 rfl (by omega) ?_ | refine BytesVC.mk _ rfl ?_ | refine DivVC.mk (by omega) (by omega) ?_ | refine RemVC.mk (by omega) (by omega) ?_ | refine GhVC.mk _ _ _ rfl ?_); set_option smartUnfolding false in conv => whnf))))
        refine .mk true (by rw [e2]; exact beq_self_eq_true _) ?_
        ((set_option smartUnfolding false in conv => whnf) <;> (repeat (first | exact True.intro | ((first | refine ⟨rfl, ?_⟩ | refine ar (by omega) (by omega) ?_ | refine ar8 (by omega) (by omega) ?_ | refine ix (by omega) ?_ | refine IdxVC.mk 0 rfl (by omega) ?_ | refine BytesVC.mk _ rfl ?_ | refine DivVC.mk (by omega) (by omega) ?_ | refine RemVC.mk (by omega) (by omega) ?_ | refine GhVC.mk _ _ _ rfl ?_); set_option smartUnfolding false in conv => whnf))))
        refine ⟨⟨(k : Int) + 1, ⟨by omega, by have h1 : (k : Int) < (zs.length : Int) := h1; omega⟩⟩, show ((zs.length : Int) - ((k : Int) + 1)).toNat < ((zs.length : Int) - (k : Int)).toNat by omega, ?_⟩
        ((set_option smartUnfolding false in conv => whnf) <;> (repeat (first | exact True.intro | ((first | refine ⟨rfl, ?_⟩ | refine ar (by omega) (by omega) ?_ | refine ar8 (by omega) (by omega) ?_ | refine ix (by omega) ?_ | refine IdxVC.mk 0 rfl (by omega) ?_ | refine BytesVC.mk _ rfl ?_ | refine DivVC.mk (by omega) (by omega) ?_ | refine RemVC.mk (by omega) (by omega) ?_ | refine GhVC.mk _ _ _ rfl ?_); set_option smartUnfolding false in conv => whnf))))
    · ((set_option smartUnfolding false in conv => whnf) <;> (repeat (first | exact True.intro | ((first | refine ⟨rfl, ?_⟩ | refine ar (by omega) (by omega) ?_ | refine ar8 (by omega) (by omega) ?_ | refine ix (by omega) ?_ | refine IdxVC.mk 0 rfl (by omega) ?_ | refine BytesVC.mk _ rfl ?_ | refine DivVC.mk (by omega) (by omega) ?_ | refine RemVC.mk (by omega) (by omega) ?_ | refine GhVC.mk _ _ _ rfl ?_); set_option smartUnfolding false in conv => whnf))))
      refine ⟨[], ?_⟩
      ((set_option smartUnfolding false in conv => whnf) <;> (repeat (first | exact True.intro | ((first | refine ⟨rfl, ?_⟩ | refine ar (by omega) (by omega) ?_ | refine ar8 (by omega) (by omega) ?_ | refine ix (by omega) ?_ | refine IdxVC.mk 0 rfl (by omega) ?_ | refine BytesVC.mk _ rfl ?_ | refine DivVC.mk (by omega) (by omega) ?_ | refine RemVC.mk (by omega) (by omega) ?_ | refine GhVC.mk _ _ _ rfl ?_); set_option smartUnfolding false in conv => whnf))))
theorem rows_rd {wb : World} (P : Hp) : ∀ (zs : List Pq) (Z : Hp), all (zs.map (pzRow 5)) Z → ∀ z ∈ zs, Rd wb Z z.2.1 z.1.2.length z.2.2 1 (byts z.1.2)
  | [], Z, h, z, hz => by cases hz
  | y :: r, Z, h, z, hz => by
    obtain ⟨A, B, hd, rfl, h1, h2⟩ := h
    rcases List.mem_cons.1 hz with rfl | hz
    · exact (rd_row h1 (byts_oneCell _)).mono (Hp.le_left _ _)
    · exact (rows_rd P r B h2 z hz).mono (Hp.le_right hd)
/-- what Cache hands out, as it reads -/
def pqP (z : Pq) : Pr := (z.1.1, z.2.1, z.2.2, z.1.2)
theorem pq_pd_vals (zs : List Pq) : Cont.vals (pdC (zs.map pqP)) = Cont.vals (pqC zs) := by
  unfold Cont.vals
  simp only [List.flatMap_map]
  rfl
/-- the list that Cache hands out, and the reference's: the same -/
theorem samePending_con (P : Hp) (zs : List Pq) (ys : List Pr) (lc : Nat) (h : zs.map (·.1) = ys.map Pr.p) (hzl : zs.length ≤ 1000000) :
    Con Try.prog [20, 302] 26 [.sl 20 2 0 zs.length zs.length, .sl 302 2 0 ys.length lc] P [.row 20 76 zs.length (pqC zs), pqRows zs, .row 302 76 lc (pdC ys)] fun x P' H' => P' = P ∧ H' = [.row 20 76 zs.length (pqC zs), pqRows zs, .row 302 76 lc (pdC ys)] ∧ x = .raw (.bool true) := by
  refine Con.lend Try.call26 (fun n hn => ?_) (fun ρ wb Z hap hZ hok ho => ?_)
  · by_cases h1 : n = 20
    · subst h1; rfl
    · by_cases h2 : n = 302
      · subst h2; rfl
      · have e1 : Nat.beq 20 n = false := by
          cases hq : Nat.beq 20 n with
          | true => exact absurd (Nat.eq_of_beq_eq_true hq).symm h1
          | false => rfl
        have e2 : Nat.beq 302 n = false := by
          cases hq : Nat.beq 302 n with
          | true => exact absurd (Nat.eq_of_beq_eq_true hq).symm h2
          | false => rfl
        simp [hasC, Ck.has, pqRows, hasN, e1, e2] at hn
  · obtain ⟨Z1, Y, hd1, rfl, hz1, Z2, Y2, hd2, rfl, hz2, Z3, Y3, hd3, rfl, hz3, hz4⟩ := hZ
    have hz4 : Y3 = fun _ => none := hz4
    have le1 : Hp.le Z1 (P.join (Z1.join (Z2.join (Z3.join Y3)))) := fun k x hx => Hp.le_right hap k x (Hp.le_left _ _ k x hx)
    have le2 : Hp.le Z2 (P.join (Z1.join (Z2.join (Z3.join Y3)))) := fun k x hx => Hp.le_right hap k x (Hp.le_right hd1 k x (Hp.le_left _ _ k x hx))
    have le3 : Hp.le Z3 (P.join (Z1.join (Z2.join (Z3.join Y3)))) := fun k x hx => Hp.le_right hap k x (Hp.le_right hd1 k x (Hp.le_right hd2 k x (Hp.le_left _ _ k x hx)))
    have hv1 : ∀ v ∈ Cont.vals (pqC zs), v.oneCell' = true := Cont.one hok.1
    have hv3 : ∀ v ∈ Cont.vals (pdC ys), v.oneCell' = true := Cont.one hok.2.2.1
    have r1 := (rd_row (wb := wb) hz1 hv1).mono le1
    rw [List.length_map] at r1
    have r3 := (rd_row (wb := wb) hz3 hv3).mono le3
    have r2 : ∀ z ∈ zs, Rd wb (P.join (Z1.join (Z2.join (Z3.join Y3)))) z.2.1 z.1.2.length z.2.2 1 (byts z.1.2) := fun z hz => (rows_rd P zs Z2 hz2 z hz).mono le2
    refine ⟨[.rs (ρ 20) zs.length (pdC (zs.map pqP)), .rs (ρ 302) lc (pdC ys)], ?_, ?_, ?_⟩
    · simp only [denL, SV.den, List.length_map, Nat.zero_mul]
      congr 2
      · cases ρ 20 <;> simp [Addr.add]
      · congr 2
        cases ρ 302 <;> simp [Addr.add]
    · refine ⟨?_, ?_, trivial⟩
      · simp only [SV.ok]
        refine ⟨?_, fun x hx => ?_⟩
        · rw [pq_pd_vals, List.length_map]; exact r1
        · obtain ⟨z, hz, rfl⟩ := List.mem_map.1 hx
          refine ⟨rfl, fun y hy => ?_⟩
          simp only [pEnc, pqP, List.mem_cons, List.not_mem_nil, or_false] at hy
          rcases hy with rfl | rfl
          · rfl
          · exact r2 z hz
      · simp only [SV.ok]
        exact ⟨r3, Cont.ok_mono (Hp.le_left _ _) hok.2.2.1⟩
    · refine (sameP_con _ (ρ 20) (ρ 302) zs.length lc (zs.map pqP) ys (by rw [List.map_map, ← h]; rfl) (by rw [List.length_map]; exact hzl)).mono ?_
      rintro x P' H' ⟨rfl, rfl, rfl⟩
      exact ⟨rfl, ⟨_, rfl⟩, rfl⟩
/-- TWIN: a loss of the statement's own -/
theorem dropm {α : Type} (L : List α) (k n : Nat) (v : α) (h : k < n) : (L.set k v).drop n = L.drop n := by
  rw [List.drop_set, if_pos h]
set_option maxRecDepth 100000 in
set_option maxHeartbeats 1000000 in
theorem twin_con (P : Hp) (l : Loss) (la : Option Addr) (lac : Nat) (hk : l.keep.length ≤ 1000000000) :
    Con Try.prog [] 23 [.agg [.rs la lac (keepC l.keep), .raw (.int .i64 l.torn), .raw (.int .i64 l.off)]] P [] fun x P' H' => x = .agg [.sl 540 1 0 l.keep.length (l.keep.length + 2), .raw (.int .i64 l.torn), .raw (.int .i64 l.off)] ∧ P' = P ∧ H' = [rowQ 540 (l.keep.length + 2) (l.keep ++ [0, 0])] := by
  obtain ⟨M, hM⟩ : ∃ M, M = (l.keep ++ [0, 0]).map kEnc := ⟨_, rfl⟩
  have hMl : M.length = l.keep.length + 2 := by rw [hM]; simp
  have hkl : (l.keep.map kEnc).length = l.keep.length := List.length_map ..
  refine Con.sub (Con.ren (con_of_fun T_good (by kernel_rfl) Try.call23 Try.func23 (by kernel_rfl) (by show 1 ≤ _; decide +kernel) ?_))
  ((set_option smartUnfolding false in conv => whnf) <;> (repeat (first | exact True.intro | ((first | refine ⟨rfl, ?_⟩ | refine ar (by omega) (by omega) ?_ | refine ar8 (by omega) (by omega) ?_ | refine ix (by omega) ?_ | refine IdxVC.mk 0 rfl (by omega) ?_ | refine BytesVC.mk _ rfl ?_ | refine DivVC.mk (by omega) (by omega) ?_ | refine RemVC.mk (by omega) (by omega) ?_ | refine GhVC.mk _ _ _ rfl ?_); set_option smartUnfolding false in conv => whnf))))
  refine ar (by show _ ≤ ((l.keep.map kEnc).length : Int) + 2; omega) (by show ((l.keep.map kEnc).length : Int) + 2 ≤ _; omega) ?_
  ((set_option smartUnfolding false in conv => whnf) <;> (repeat (first | exact True.intro | ((first | refine ⟨rfl, ?_⟩ | refine ar (by omega) (by omega) ?_ | refine ar8 (by omega) (by omega) ?_ | refine ix (by omega) ?_ | refine IdxVC.mk 0 rfl (by omega) ?_ | refine BytesVC.mk _ rfl ?_ | refine DivVC.mk (by omega) (by omega) ?_ | refine RemVC.mk (by omega) (by omega) ?_ | refine GhVC.mk _ _ _ rfl ?_); set_option smartUnfolding false in conv => whnf))))
  refine .mk (l.keep.length + 2) (l.keep.length + 2) (by show ((l.keep.map kEnc).length : Int) + 2 = _; omega) (by show ((l.keep.map kEnc).length : Int) + 2 = _; omega) (Nat.le_refl _) (by show (l.keep.length + 2) * 8 ≤ _; omega) (by omega) ?_
  ((set_option smartUnfolding false in conv => whnf) <;> (repeat (first | exact True.intro | ((first | refine ⟨rfl, ?_⟩ | refine ar (by omega) (by omega) ?_ | refine ar8 (by omega) (by omega) ?_ | refine ix (by omega) ?_ | refine IdxVC.mk 0 rfl (by omega) ?_ | refine BytesVC.mk _ rfl ?_ | refine DivVC.mk (by omega) (by omega) ?_ | refine RemVC.mk (by omega) (by omega) ?_ | refine GhVC.mk _ _ _ rfl ?_); set_option smartUnfolding false in conv => whnf))))
  refine .mk (β := { y : Int × List (List Cell) // ∃ k : Nat, y.1 = (k : Int) ∧ k ≤ l.keep.length ∧ y.2.length = l.keep.length + 2 ∧ (∀ z ∈ y.2, z.length = 1) ∧ y.2.take k = M.take k ∧ y.2.drop l.keep.length = M.drop l.keep.length }) (fun ⟨(kk, L), _⟩ => ⟨[(4, .raw (.int .i64 kk)), (3, .sl 9 1 0 (l.keep.length + 2) (l.keep.length + 2)), (2, .ptr 2 0), (1, .ptr 1 0)], P, [.row 9 39 (l.keep.length + 2) (lits 1 L), .blk 2 38 [.raw (.slice none 0 0), .raw (.int .i64 0), .raw (.int .i64 0)], .blk 1 38 [.rs la lac (keepC l.keep), .raw (.int .i64 l.torn), .raw (.int .i64 l.off)]]⟩) (fun b => ((l.keep.length : Int) - b.1.1).toNat) ⟨(0, List.replicate (l.keep.length + 2) [.v (.int .u64 0)]), ⟨0, rfl, Nat.zero_le _, List.length_replicate .., fun z hz => by rw [List.eq_of_mem_replicate hz]; rfl, rfl, by rw [hM, List.map_append, List.drop_left' hkl, List.drop_replicate, show l.keep.length + 2 - l.keep.length = 2 by omega]; rfl⟩⟩ ?_ ?_
  · ((set_option smartUnfolding false in conv => whnf) <;> (repeat (first | exact True.intro | ((first | refine ⟨rfl, ?_⟩ | refine ar (by omega) (by omega) ?_ | refine ar8 (by omega) (by omega) ?_ | refine ix (by omega) ?_ | refine IdxVC.mk 0 rfl (by omega) ?_ | refine BytesVC.mk _ rfl ?_ | refine DivVC.mk (by omega) (by omega) ?_ | refine RemVC.mk (by omega) (by omega) ?_ | refine GhVC.mk _ _ _ rfl ?_); set_option smartUnfolding false in conv => whnf))))
  · rintro ⟨⟨kk, L⟩, hk'⟩ -
    obtain ⟨k, hkk, hkm, hL, h1, ht, hdr⟩ : ∃ k : Nat, kk = (k : Int) ∧ k ≤ l.keep.length ∧ L.length = l.keep.length + 2 ∧ (∀ z ∈ L, z.length = 1) ∧ L.take k = M.take k ∧ L.drop l.keep.length = M.drop l.keep.length := hk'
    ((set_option smartUnfolding false in conv => whnf) <;> (repeat (first | exact True.intro | ((first | refine ⟨rfl, ?_⟩ | refine ar (by omega) (by omega) ?_ | refine ar8 (by omega) (by omega) ?_ | refine ix (by omega) ?_ | refine IdxVC.mk 0 rfl (by omega) ?_ | refine BytesVC.mk _ rfl ?_ | refine DivVC.mk (by omega) (by omega) ?_ | refine RemVC.mk (by omega) (by omega) ?_ | refine GhVC.mk _ _ _ rfl ?_); set_option smartUnfolding false in conv => whnf))))
    refine bxd (fun h => ?_) (fun h => ?_)
    · have hlt : k < l.keep.length := by have h : kk < ((l.keep.map kEnc).length : Int) := h; omega
      obtain ⟨x, hx⟩ : ∃ x, l.keep[k]? = some x := ⟨l.keep[k], List.getElem?_eq_getElem hlt⟩
      have hld : (l.keep.map kEnc)[k]? = some (kEnc x) := by rw [List.getElem?_map, hx]; rfl
      have hMk : M[k]? = some (kEnc x) := by rw [hM, List.map_append, List.getElem?_append_left (by omega)]; exact hld
      obtain ⟨l0, hl0⟩ : ∃ y, L[k]? = some y := ⟨L[k], List.getElem?_eq_getElem (by omega)⟩
      ((set_option smartUnfolding false in conv => whnf) <;> (repeat (first | exact True.intro | ((first | refine ⟨rfl, ?_⟩ | refine ar (by omega) (by omega) ?_ | refine ar8 (by omega) (by omega) ?_ | refine ix (by omega) ?_ | refine IdxVC.mk 0 rfl (by omega) ?_ | refine BytesVC.mk _ rfl ?_ | refine DivVC.mk (by omega) (by omega) ?_ | refine RemVC.mk (by omega) (by omega) ?_ | refine GhVC.mk _ _ _ rfl ?_); set_option smartUnfolding false in conv => whnf))))
      refine ⟨show 0 < 1 by omega, ?_⟩
      refine IdxVC.mk k hkk (by show k < (l.keep.map kEnc).length; omega) ?_
      ((set_option smartUnfolding false in conv => whnf) <;> (repeat (first | exact True.intro | ((first | refine ⟨rfl, ?_⟩ | refine ar (by omega) (by omega) ?_ | refine ar8 (by omega) (by omega) ?_ | refine ix (by omega) ?_ | refine IdxVC.mk 0 rfl (by omega) ?_ | refine BytesVC.mk _ rfl ?_ | refine DivVC.mk (by omega) (by omega) ?_ | refine RemVC.mk (by omega) (by omega) ?_ | refine GhVC.mk _ _ _ rfl ?_); set_option smartUnfolding false in conv => whnf))))
      refine .mk (kEnc x) hld ?_
      ((set_option smartUnfolding false in conv => whnf) <;> (repeat (first | exact True.intro | ((first | refine ⟨rfl, ?_⟩ | refine ar (by omega) (by omega) ?_ | refine ar8 (by omega) (by omega) ?_ | refine ix (by omega) ?_ | refine IdxVC.mk 0 rfl (by omega) ?_ | refine BytesVC.mk _ rfl ?_ | refine DivVC.mk (by omega) (by omega) ?_ | refine RemVC.mk (by omega) (by omega) ?_ | refine GhVC.mk _ _ _ rfl ?_); set_option smartUnfolding false in conv => whnf))))
      refine IdxVC.mk k hkk (by omega) ?_
      ((set_option smartUnfolding false in conv => whnf) <;> (repeat (first | exact True.intro | ((first | refine ⟨rfl, ?_⟩ | refine ar (by omega) (by omega) ?_ | refine ar8 (by omega) (by omega) ?_ | refine ix (by omega) ?_ | refine IdxVC.mk 0 rfl (by omega) ?_ | refine BytesVC.mk _ rfl ?_ | refine DivVC.mk (by omega) (by omega) ?_ | refine RemVC.mk (by omega) (by omega) ?_ | refine GhVC.mk _ _ _ rfl ?_); set_option smartUnfolding false in conv => whnf))))
      refine .mk l0 (kEnc x) (by rw [Nat.zero_add]; exact hl0) (by
        show kEnc x = wr l0 0 [Cell.v (.int .u64 (x : Int))]
        obtain ⟨c, rfl⟩ := List.length_eq_one_iff.1 (h1 l0 (List.mem_of_getElem? hl0))
        rfl) (by show 0 + 1 ≤ l0.length; rw [h1 l0 (List.mem_of_getElem? hl0)]; omega) ?_
      ((set_option smartUnfolding false in conv => whnf) <;> (repeat (first | exact True.intro | ((first | refine ⟨rfl, ?_⟩ | refine ar (by omega) (by omega) ?_ | refine ar8 (by omega) (by omega) ?_ | refine ix (by omega) ?_ | refine IdxVC.mk 0 rfl (by omega) ?_ | refine BytesVC.mk _ rfl ?_ | refine DivVC.mk (by omega) (by omega) ?_ | refine RemVC.mk (by omega) (by omega) ?_ | refine GhVC.mk _ _ _ rfl ?_); set_option smartUnfolding false in conv => whnf))))
      refine ⟨⟨(kk + 1, L.set (0 + k) (kEnc x)), ⟨k + 1, by omega, by omega, by simp [hL], fun z hz => (List.mem_or_eq_of_mem_set hz).elim (h1 z) (fun e => by rw [e]; rfl), by rw [Nat.zero_add, take_set _ _ _ (by omega), ht, take_at M k _ hMk], by rw [Nat.zero_add, dropm _ _ _ _ hlt]; exact hdr⟩⟩, show ((l.keep.length : Int) - (kk + 1)).toNat < ((l.keep.length : Int) - kk).toNat by omega, ?_⟩
      ((set_option smartUnfolding false in conv => whnf) <;> (repeat (first | exact True.intro | ((first | refine ⟨rfl, ?_⟩ | refine ar (by omega) (by omega) ?_ | refine ar8 (by omega) (by omega) ?_ | refine ix (by omega) ?_ | refine IdxVC.mk 0 rfl (by omega) ?_ | refine BytesVC.mk _ rfl ?_ | refine DivVC.mk (by omega) (by omega) ?_ | refine RemVC.mk (by omega) (by omega) ?_ | refine GhVC.mk _ _ _ rfl ?_); set_option smartUnfolding false in conv => whnf))))
    · have hk2 : k = l.keep.length := by have h : ¬ kk < ((l.keep.map kEnc).length : Int) := h; omega
      have hLM : L = M := by rw [← List.take_append_drop l.keep.length L, ← List.take_append_drop l.keep.length M, hdr, ← hk2, ht]
      ((set_option smartUnfolding false in conv => whnf) <;> (repeat (first | exact True.intro | ((first | refine ⟨rfl, ?_⟩ | refine ar (by omega) (by omega) ?_ | refine ar8 (by omega) (by omega) ?_ | refine ix (by omega) ?_ | refine IdxVC.mk 0 rfl (by omega) ?_ | refine BytesVC.mk _ rfl ?_ | refine DivVC.mk (by omega) (by omega) ?_ | refine RemVC.mk (by omega) (by omega) ?_ | refine GhVC.mk _ _ _ rfl ?_); set_option smartUnfolding false in conv => whnf))))
      refine .mk 0 l.keep.length rfl (by show ((l.keep.map kEnc).length : Int) = _; omega) (Nat.zero_le _) (by omega) ?_
      rw [if_neg (show ¬ l.keep.length + 2 = 0 by omega)]
      ((set_option smartUnfolding false in conv => whnf) <;> (repeat (first | exact True.intro | ((first | refine ⟨rfl, ?_⟩ | refine ar (by omega) (by omega) ?_ | refine ar8 (by omega) (by omega) ?_ | refine ix (by omega) ?_ | refine IdxVC.mk 0 rfl (by omega) ?_ | refine BytesVC.mk _ rfl ?_ | refine DivVC.mk (by omega) (by omega) ?_ | refine RemVC.mk (by omega) (by omega) ?_ | refine GhVC.mk _ _ _ rfl ?_); set_option smartUnfolding false in conv => whnf))))
      refine ⟨[(9, 540), (1, 601), (2, 602)], rfl, rfl, ?_⟩
      ((set_option smartUnfolding false in conv => whnf) <;> (repeat (first | exact True.intro | ((first | refine ⟨rfl, ?_⟩ | refine ar (by omega) (by omega) ?_ | refine ar8 (by omega) (by omega) ?_ | refine ix (by omega) ?_ | refine IdxVC.mk 0 rfl (by omega) ?_ | refine BytesVC.mk _ rfl ?_ | refine DivVC.mk (by omega) (by omega) ?_ | refine RemVC.mk (by omega) (by omega) ?_ | refine GhVC.mk _ _ _ rfl ?_); set_option smartUnfolding false in conv => whnf))))
      have hfin : Ck.row 540 39 (l.keep.length + 2) (lits 1 L) = rowQ 540 (l.keep.length + 2) (l.keep ++ [0, 0]) := by rw [hLM, hM]; rfl
      refine ⟨[rowQ 540 (l.keep.length + 2) (l.keep ++ [0, 0])], ?_⟩
      ((set_option smartUnfolding false in conv => whnf) <;> (repeat (first | exact True.intro | ((first | refine ⟨rfl, ?_⟩ | refine ar (by omega) (by omega) ?_ | refine ar8 (by omega) (by omega) ?_ | refine ix (by omega) ?_ | refine IdxVC.mk 0 rfl (by omega) ?_ | refine BytesVC.mk _ rfl ?_ | refine DivVC.mk (by omega) (by omega) ?_ | refine RemVC.mk (by omega) (by omega) ?_ | refine GhVC.mk _ _ _ rfl ?_); set_option smartUnfolding false in conv => whnf))))
      refine ⟨hfin, ?_⟩
      ((set_option smartUnfolding false in conv => whnf) <;> (repeat (first | exact True.intro | ((first | refine ⟨rfl, ?_⟩ | refine ar (by omega) (by omega) ?_ | refine ar8 (by omega) (by omega) ?_ | refine ix (by omega) ?_ | refine IdxVC.mk 0 rfl (by omega) ?_ | refine BytesVC.mk _ rfl ?_ | refine DivVC.mk (by omega) (by omega) ?_ | refine RemVC.mk (by omega) (by omega) ?_ | refine GhVC.mk _ _ _ rfl ?_); set_option smartUnfolding false in conv => whnf))))
set_option maxRecDepth 100000 in
set_option maxHeartbeats 1000000 in
theorem sameKeep_con (P : Hp) (l : Loss) (la : Option Addr) (lac cap : Nat) (hk : l.keep.length ≤ 1000000000) :
    Con Try.prog [540] 67 [.agg [.sl 540 1 0 l.keep.length cap, .raw (.int .i64 l.torn), .raw (.int .i64 l.off)], .agg [.rs la lac (keepC l.keep), .raw (.int .i64 l.torn), .raw (.int .i64 l.off)]] P [rowQ 540 cap (l.keep ++ [0, 0])] fun x P' H' => x = .raw (.bool true) ∧ P' = P ∧ H' = [rowQ 540 cap (l.keep ++ [0, 0])] := by
  obtain ⟨M, hM⟩ : ∃ M, M = (l.keep ++ [0, 0]).map kEnc := ⟨_, rfl⟩
  have hMl : M.length = l.keep.length + 2 := by rw [hM]; simp
  have hkl : (l.keep.map kEnc).length = l.keep.length := List.length_map ..
  refine Con.sub (con_of_fun T_good (by kernel_rfl) Try.call67 Try.func67 (by kernel_rfl) (by show 2 ≤ _; decide +kernel) ?_)
  ((set_option smartUnfolding false in conv => whnf) <;> (repeat (first | exact True.intro | ((first | refine ⟨rfl, ?_⟩ | refine ar (by omega) (by omega) ?_ | refine ar8 (by omega) (by omega) ?_ | refine ix (by omega) ?_ | refine IdxVC.mk 0 rfl (by omega) ?_ | refine BytesVC.mk _ rfl ?_ | refine DivVC.mk (by omega) (by omega) ?_ | refine RemVC.mk (by omega) (by omega) ?_ | refine GhVC.mk _ _ _ rfl ?_); set_option smartUnfolding false in conv => whnf))))
  refine .mk (β := { k : Int // 0 ≤ k ∧ k ≤ (l.keep.length : Int) }) (fun ⟨kk, _⟩ => ⟨[(5, .raw (.int .i64 kk)), (3, .ptr 3 0), (2, .ptr 2 0)], P, [rowQ 540 cap (l.keep ++ [0, 0]), .blk 3 38 [.rs la lac (keepC l.keep), .raw (.int .i64 l.torn), .raw (.int .i64 l.off)], .blk 2 38 [.sl 540 1 0 l.keep.length cap, .raw (.int .i64 l.torn), .raw (.int .i64 l.off)]]⟩) (fun b => ((l.keep.length : Int) - b.1).toNat) ⟨0, by omega, by omega⟩ ?_ ?_
  · ((set_option smartUnfolding false in conv => whnf) <;> (repeat (first | exact True.intro | ((first | refine ⟨rfl, ?_⟩ | refine ar (by omega) (by omega) ?_ | refine ar8 (by omega) (by omega) ?_ | refine ix (by omega) ?_ | refine IdxVC.mk 0 rfl (by omega) ?_ | refine BytesVC.mk _ rfl ?_ | refine DivVC.mk (by omega) (by omega) ?_ | refine RemVC.mk (by omega) (by omega) ?_ | refine GhVC.mk _ _ _ rfl ?_); set_option smartUnfolding false in conv => whnf))))
  · rintro ⟨kk, hk0, hk1⟩ -
    ((set_option smartUnfolding false in conv => whnf) <;> (repeat (first | exact True.intro | ((first | refine ⟨rfl, ?_⟩ | refine ar (by omega) (by omega) ?_ | refine ar8 (by omega) (by omega) ?_ | refine ix (by omega) ?_ | refine IdxVC.mk 0 rfl (by omega) ?_ | refine BytesVC.mk _ rfl ?_ | refine DivVC.mk (by omega) (by omega) ?_ | refine RemVC.mk (by omega) (by omega) ?_ | refine GhVC.mk _ _ _ rfl ?_); set_option smartUnfolding false in conv => whnf))))
    refine bxd (fun h => ?_) (fun h => ?_)
    · have h : kk < (l.keep.length : Int) := by have h : kk < ((l.keep.map kEnc).length : Int) := h; omega
      obtain ⟨k, rfl⟩ : ∃ k : Nat, kk = (k : Int) := ⟨kk.toNat, by omega⟩
      have hlt : k < l.keep.length := by omega
      obtain ⟨x, hx⟩ : ∃ x, l.keep[k]? = some x := ⟨l.keep[k], List.getElem?_eq_getElem hlt⟩
      have hld : (l.keep.map kEnc)[k]? = some (kEnc x) := by rw [List.getElem?_map, hx]; rfl
      have hMk : ((l.keep ++ [0, 0]).map kEnc)[0 + k]? = some (kEnc x) := by rw [Nat.zero_add, List.map_append, List.getElem?_append_left (by omega)]; exact hld
      ((set_option smartUnfolding false in conv => whnf) <;> (repeat (first | exact True.intro | ((first | refine ⟨rfl, ?_⟩ | refine ar (by omega) (by omega) ?_ | refine ar8 (by omega) (by omega) ?_ | refine ix (by omega) ?_ | refine IdxVC.mk 0 rfl (by omega) ?_ | refine BytesVC.mk _ rfl ?_ | refine DivVC.mk (by omega) (by omega) ?_ | refine RemVC.mk (by omega) (by omega) ?_ | refine GhVC.mk _ _ _ rfl ?_); set_option smartUnfolding false in conv => whnf))))
      refine .mk (kEnc x) hMk ?_
      ((set_option smartUnfolding false in conv => whnf) <;> (repeat (first | exact True.intro | ((first | refine ⟨rfl, ?_⟩ | refine ar (by omega) (by omega) ?_ | refine ar8 (by omega) (by omega) ?_ | refine ix (by omega) ?_ | refine IdxVC.mk 0 rfl (by omega) ?_ | refine BytesVC.mk _ rfl ?_ | refine DivVC.mk (by omega) (by omega) ?_ | refine RemVC.mk (by omega) (by omega) ?_ | refine GhVC.mk _ _ _ rfl ?_); set_option smartUnfolding false in conv => whnf))))
      refine ⟨show 0 < 1 by omega, ?_⟩
      refine IdxVC.mk k rfl (by show k < (l.keep.map kEnc).length; omega) ?_
      ((set_option smartUnfolding false in conv => whnf) <;> (repeat (first | exact True.intro | ((first | refine ⟨rfl, ?_⟩ | refine ar (by omega) (by omega) ?_ | refine ar8 (by omega) (by omega) ?_ | refine ix (by omega) ?_ | refine IdxVC.mk 0 rfl (by omega) ?_ | refine BytesVC.mk _ rfl ?_ | refine DivVC.mk (by omega) (by omega) ?_ | refine RemVC.mk (by omega) (by omega) ?_ | refine GhVC.mk _ _ _ rfl ?_); set_option smartUnfolding false in conv => whnf))))
      refine .mk (kEnc x) hld ?_
      ((set_option smartUnfolding false in conv => whnf) <;> (repeat (first | exact True.intro | ((first | refine ⟨rfl, ?_⟩ | refine ar (by omega) (by omega) ?_ | refine ar8 (by omega) (by omega) ?_ | refine ix (by omega) ?_ | refine IdxVC.mk 0 rfl (by omega) ?_ | refine BytesVC.mk _ rfl ?_ | refine DivVC.mk (by omega) (by omega) ?_ | refine RemVC.mk (by omega) (by omega) ?_ | refine GhVC.mk _ _ _ rfl ?_); set_option smartUnfolding false in conv => whnf))))
      refine bxn (fun h => (h rfl).elim) (fun _ => ?_)
      ((set_option smartUnfolding false in conv => whnf) <;> (repeat (first | exact True.intro | ((first | refine ⟨rfl, ?_⟩ | refine ar (by omega) (by omega) ?_ | refine ar8 (by omega) (by omega) ?_ | refine ix (by omega) ?_ | refine IdxVC.mk 0 rfl (by omega) ?_ | refine BytesVC.mk _ rfl ?_ | refine DivVC.mk (by omega) (by omega) ?_ | refine RemVC.mk (by omega) (by omega) ?_ | refine GhVC.mk _ _ _ rfl ?_); set_option smartUnfolding false in conv => whnf))))
      refine ⟨⟨(k : Int) + 1, ⟨by omega, by omega⟩⟩, show ((l.keep.length : Int) - ((k : Int) + 1)).toNat < ((l.keep.length : Int) - (k : Int)).toNat by omega, ?_⟩
      ((set_option smartUnfolding false in conv => whnf) <;> (repeat (first | exact True.intro | ((first | refine ⟨rfl, ?_⟩ | refine ar (by omega) (by omega) ?_ | refine ar8 (by omega) (by omega) ?_ | refine ix (by omega) ?_ | refine IdxVC.mk 0 rfl (by omega) ?_ | refine BytesVC.mk _ rfl ?_ | refine DivVC.mk (by omega) (by omega) ?_ | refine RemVC.mk (by omega) (by omega) ?_ | refine GhVC.mk _ _ _ rfl ?_); set_option smartUnfolding false in conv => whnf))))
    · ((set_option smartUnfolding false in conv => whnf) <;> (repeat (first | exact True.intro | ((first | refine ⟨rfl, ?_⟩ | refine ar (by omega) (by omega) ?_ | refine ar8 (by omega) (by omega) ?_ | refine ix (by omega) ?_ | refine IdxVC.mk 0 rfl (by omega) ?_ | refine BytesVC.mk _ rfl ?_ | refine DivVC.mk (by omega) (by omega) ?_ | refine RemVC.mk (by omega) (by omega) ?_ | refine GhVC.mk _ _ _ rfl ?_); set_option smartUnfolding false in conv => whnf))))
      refine ⟨[rowQ 540 cap (l.keep ++ [0, 0])], ?_⟩
      ((set_option smartUnfolding false in conv => whnf) <;> (repeat (first | exact True.intro | ((first | refine ⟨rfl, ?_⟩ | refine ar (by omega) (by omega) ?_ | refine ar8 (by omega) (by omega) ?_ | refine ix (by omega) ?_ | refine IdxVC.mk 0 rfl (by omega) ?_ | refine BytesVC.mk _ rfl ?_ | refine DivVC.mk (by omega) (by omega) ?_ | refine RemVC.mk (by omega) (by omega) ?_ | refine GhVC.mk _ _ _ rfl ?_); set_option smartUnfolding false in conv => whnf))))
set_option maxRecDepth 100000 in
set_option maxHeartbeats 1000000 in
theorem spoil_con (P : Hp) (l : Loss) (cap : Nat) (hk : l.keep.length ≤ 1000000000) (hc : l.keep.length + 2 ≤ cap) :
    Con Try.prog [540] 68 [.agg [.sl 540 1 0 l.keep.length cap, .raw (.int .i64 l.torn), .raw (.int .i64 l.off)]] P [rowQ 540 cap (l.keep ++ [0, 0])] fun x P' H' => x = .raw (.bool true) ∧ P' = P ∧ H' = [] := by
  have hkl : (l.keep.map kEnc).length = l.keep.length := List.length_map ..
  have hM0 : ((l.keep ++ [0, 0]).map kEnc)[0 + 0 + l.keep.length]? = some (kEnc 0) := by rw [Nat.zero_add, List.map_append, List.getElem?_append_right (by omega), hkl, Nat.sub_self]; rfl
  have hM1 : ((l.keep ++ [0, 0]).map kEnc)[0 + 0 + (l.keep.length + 1)]? = some (kEnc 0) := by rw [Nat.zero_add, List.map_append, List.getElem?_append_right (by omega), hkl, show l.keep.length + 1 - l.keep.length = 1 by omega]; rfl
  refine Con.sub (con_of_fun T_good (by kernel_rfl) Try.call68 Try.func68 (by kernel_rfl) (by show 1 ≤ _; decide +kernel) ?_)
  ((set_option smartUnfolding false in conv => whnf) <;> (repeat (first | exact True.intro | ((first | refine ⟨rfl, ?_⟩ | refine ar (by omega) (by omega) ?_ | refine ar8 (by omega) (by omega) ?_ | refine ix (by omega) ?_ | refine IdxVC.mk 0 rfl (by omega) ?_ | refine BytesVC.mk _ rfl ?_ | refine DivVC.mk (by omega) (by omega) ?_ | refine RemVC.mk (by omega) (by omega) ?_ | refine GhVC.mk _ _ _ rfl ?_); set_option smartUnfolding false in conv => whnf))))
  refine .mk 0 (l.keep.length + 2) (by omega) (by omega) (by omega) (by omega) ?_
  rw [if_neg (show ¬ cap = 0 by omega)]
  ((set_option smartUnfolding false in conv => whnf) <;> (repeat (first | exact True.intro | ((first | refine ⟨rfl, ?_⟩ | refine ar (by omega) (by omega) ?_ | refine ar8 (by omega) (by omega) ?_ | refine ix (by omega) ?_ | refine IdxVC.mk 0 rfl (by omega) ?_ | refine BytesVC.mk _ rfl ?_ | refine DivVC.mk (by omega) (by omega) ?_ | refine RemVC.mk (by omega) (by omega) ?_ | refine GhVC.mk _ _ _ rfl ?_); set_option smartUnfolding false in conv => whnf))))
  refine .mk (kEnc 0) hM0 ?_
  ((set_option smartUnfolding false in conv => whnf) <;> (repeat (first | exact True.intro | ((first | refine ⟨rfl, ?_⟩ | refine ar (by omega) (by omega) ?_ | refine ar8 (by omega) (by omega) ?_ | refine ix (by omega) ?_ | refine IdxVC.mk 0 rfl (by omega) ?_ | refine BytesVC.mk _ rfl ?_ | refine DivVC.mk (by omega) (by omega) ?_ | refine RemVC.mk (by omega) (by omega) ?_ | refine GhVC.mk _ _ _ rfl ?_); set_option smartUnfolding false in conv => whnf))))
  refine .mk 0 (l.keep.length + 2) (by omega) (by omega) (by omega) (by omega) ?_
  rw [if_neg (show ¬ cap = 0 by omega)]
  ((set_option smartUnfolding false in conv => whnf) <;> (repeat (first | exact True.intro | ((first | refine ⟨rfl, ?_⟩ | refine ar (by omega) (by omega) ?_ | refine ar8 (by omega) (by omega) ?_ | refine ix (by omega) ?_ | refine IdxVC.mk 0 rfl (by omega) ?_ | refine BytesVC.mk _ rfl ?_ | refine DivVC.mk (by omega) (by omega) ?_ | refine RemVC.mk (by omega) (by omega) ?_ | refine GhVC.mk _ _ _ rfl ?_); set_option smartUnfolding false in conv => whnf))))
  refine IdxVC.mk (l.keep.length + 1) rfl (by omega) ?_
  ((set_option smartUnfolding false in conv => whnf) <;> (repeat (first | exact True.intro | ((first | refine ⟨rfl, ?_⟩ | refine ar (by omega) (by omega) ?_ | refine ar8 (by omega) (by omega) ?_ | refine ix (by omega) ?_ | refine IdxVC.mk 0 rfl (by omega) ?_ | refine BytesVC.mk _ rfl ?_ | refine DivVC.mk (by omega) (by omega) ?_ | refine RemVC.mk (by omega) (by omega) ?_ | refine GhVC.mk _ _ _ rfl ?_); set_option smartUnfolding false in conv => whnf))))
  refine .mk (kEnc 0) hM1 ?_
  ((set_option smartUnfolding false in conv => whnf) <;> (repeat (first | exact True.intro | ((first | refine ⟨rfl, ?_⟩ | refine ar (by omega) (by omega) ?_ | refine ar8 (by omega) (by omega) ?_ | refine ix (by omega) ?_ | refine IdxVC.mk 0 rfl (by omega) ?_ | refine BytesVC.mk _ rfl ?_ | refine DivVC.mk (by omega) (by omega) ?_ | refine RemVC.mk (by omega) (by omega) ?_ | refine GhVC.mk _ _ _ rfl ?_); set_option smartUnfolding false in conv => whnf))))
  refine .mk (β := { y : Int × List (List Cell) // (0 ≤ y.1 ∧ y.1 ≤ (l.keep.length : Int)) ∧ y.2.length = l.keep.length + 2 ∧ ∀ z ∈ y.2, z.length = 1 }) (fun ⟨(kk, L), _⟩ => ⟨[(5, .raw (.int .i64 kk)), (4, .raw (.bool true)), (3, .raw (.int .i64 (l.keep.length : Int))), (1, .ptr 1 0)], P, [.row 540 39 cap (lits 1 L), .blk 1 38 [.sl 540 1 0 l.keep.length cap, .raw (.int .i64 l.torn), .raw (.int .i64 l.off)]]⟩) (fun b => ((l.keep.length : Int) - b.1.1).toNat) ⟨(0, (l.keep ++ [0, 0]).map kEnc), ⟨by omega, by omega⟩, by simp, fun z hz => by obtain ⟨y, -, rfl⟩ := List.mem_map.1 hz; rfl⟩ ?_ ?_
  · ((set_option smartUnfolding false in conv => whnf) <;> (repeat (first | exact True.intro | ((first | refine ⟨rfl, ?_⟩ | refine ar (by omega) (by omega) ?_ | refine ar8 (by omega) (by omega) ?_ | refine ix (by omega) ?_ | refine IdxVC.mk 0 rfl (by omega) ?_ | refine BytesVC.mk _ rfl ?_ | refine DivVC.mk (by omega) (by omega) ?_ | refine RemVC.mk (by omega) (by omega) ?_ | refine GhVC.mk _ _ _ rfl ?_); set_option smartUnfolding false in conv => whnf))))
  · rintro ⟨⟨kk, L⟩, hk'⟩ -
    obtain ⟨⟨hk0, hk1⟩, hL, h1⟩ : (0 ≤ kk ∧ kk ≤ (l.keep.length : Int)) ∧ L.length = l.keep.length + 2 ∧ ∀ z ∈ L, z.length = 1 := hk'
    ((set_option smartUnfolding false in conv => whnf) <;> (repeat (first | exact True.intro | ((first | refine ⟨rfl, ?_⟩ | refine ar (by omega) (by omega) ?_ | refine ar8 (by omega) (by omega) ?_ | refine ix (by omega) ?_ | refine IdxVC.mk 0 rfl (by omega) ?_ | refine BytesVC.mk _ rfl ?_ | refine DivVC.mk (by omega) (by omega) ?_ | refine RemVC.mk (by omega) (by omega) ?_ | refine GhVC.mk _ _ _ rfl ?_); set_option smartUnfolding false in conv => whnf))))
    refine bxd (fun h => ?_) (fun h => ?_)
    · obtain ⟨k, rfl⟩ : ∃ k : Nat, kk = (k : Int) := ⟨kk.toNat, by omega⟩
      have hlt : k < l.keep.length := by omega
      obtain ⟨l0, hl0⟩ : ∃ y, L[k]? = some y := ⟨L[k], List.getElem?_eq_getElem (by omega)⟩
      ((set_option smartUnfolding false in conv => whnf) <;> (repeat (first | exact True.intro | ((first | refine ⟨rfl, ?_⟩ | refine ar (by omega) (by omega) ?_ | refine ar8 (by omega) (by omega) ?_ | refine ix (by omega) ?_ | refine IdxVC.mk 0 rfl (by omega) ?_ | refine BytesVC.mk _ rfl ?_ | refine DivVC.mk (by omega) (by omega) ?_ | refine RemVC.mk (by omega) (by omega) ?_ | refine GhVC.mk _ _ _ rfl ?_); set_option smartUnfolding false in conv => whnf))))
      refine .mk l0 (kEnc 6148914691236517205) (by rw [Nat.zero_add]; exact hl0) (by
        show kEnc 6148914691236517205 = wr l0 0 [Cell.v (.int .u64 6148914691236517205)]
        obtain ⟨c, rfl⟩ := List.length_eq_one_iff.1 (h1 l0 (List.mem_of_getElem? hl0))
        rfl) (by show 0 + 1 ≤ l0.length; rw [h1 l0 (List.mem_of_getElem? hl0)]; omega) ?_
      ((set_option smartUnfolding false in conv => whnf) <;> (repeat (first | exact True.intro | ((first | refine ⟨rfl, ?_⟩ | refine ar (by omega) (by omega) ?_ | refine ar8 (by omega) (by omega) ?_ | refine ix (by omega) ?_ | refine IdxVC.mk 0 rfl (by omega) ?_ | refine BytesVC.mk _ rfl ?_ | refine DivVC.mk (by omega) (by omega) ?_ | refine RemVC.mk (by omega) (by omega) ?_ | refine GhVC.mk _ _ _ rfl ?_); set_option smartUnfolding false in conv => whnf))))
      refine ⟨⟨((k : Int) + 1, L.set (0 + k) (kEnc 6148914691236517205)), ⟨by omega, by omega⟩, by simp [hL], fun z hz => (List.mem_or_eq_of_mem_set hz).elim (h1 z) (fun e => by rw [e]; rfl)⟩, show ((l.keep.length : Int) - ((k : Int) + 1)).toNat < ((l.keep.length : Int) - (k : Int)).toNat by omega, ?_⟩
      ((set_option smartUnfolding false in conv => whnf) <;> (repeat (first | exact True.intro | ((first | refine ⟨rfl, ?_⟩ | refine ar (by omega) (by omega) ?_ | refine ar8 (by omega) (by omega) ?_ | refine ix (by omega) ?_ | refine IdxVC.mk 0 rfl (by omega) ?_ | refine BytesVC.mk _ rfl ?_ | refine DivVC.mk (by omega) (by omega) ?_ | refine RemVC.mk (by omega) (by omega) ?_ | refine GhVC.mk _ _ _ rfl ?_); set_option smartUnfolding false in conv => whnf))))
    · ((set_option smartUnfolding false in conv => whnf) <;> (repeat (first | exact True.intro | ((first | refine ⟨rfl, ?_⟩ | refine ar (by omega) (by omega) ?_ | refine ar8 (by omega) (by omega) ?_ | refine ix (by omega) ?_ | refine IdxVC.mk 0 rfl (by omega) ?_ | refine BytesVC.mk _ rfl ?_ | refine DivVC.mk (by omega) (by omega) ?_ | refine RemVC.mk (by omega) (by omega) ?_ | refine GhVC.mk _ _ _ rfl ?_); set_option smartUnfolding false in conv => whnf))))
      refine ⟨[], ?_⟩
      ((set_option smartUnfolding false in conv => whnf) <;> (repeat (first | exact True.intro | ((first | refine ⟨rfl, ?_⟩ | refine ar (by omega) (by omega) ?_ | refine ar8 (by omega) (by omega) ?_ | refine ix (by omega) ?_ | refine IdxVC.mk 0 rfl (by omega) ?_ | refine BytesVC.mk _ rfl ?_ | refine DivVC.mk (by omega) (by omega) ?_ | refine RemVC.mk (by omega) (by omega) ?_ | refine GhVC.mk _ _ _ rfl ?_); set_option smartUnfolding false in conv => whnf))))
end Go.Proofs.Ytpdppacafkdgdaa
