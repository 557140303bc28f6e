/- The loop of WalWhole, by the engine. -/
import Derived.Test.YtpaebopmppbjbaaGreatDoorWw
set_option linter.unusedVariables false
set_option linter.unusedSimpArgs false
namespace Go.Proofs.YtpaebopmppbjbaaGreatDoor
open Go Go.RowKit Go.Le Go.Eng
set_option maxRecDepth 100000 in
set_option maxHeartbeats 1000000 in
theorem whole_con (P : Hp) (a0 b0 : Int) (ta : Option Addr) (tc : Nat) (TT : List Tn) (hTT : ∀ t ∈ TT, t.T.all (fun x => decide (-9223372036854775808 ≤ x.1 ∧ x.1 ≤ 9223372036854775807)) = true ∧ ∀ x ∈ t.F, (-9223372036854775808 ≤ x.step ∧ x.step ≤ 9223372036854775807) ∧ x.loss.ok ∧ x.loss.keep.length ≤ 1000000000)
    (a1 : -9223372036854775808 ≤ a0) (a2 : a0 ≤ 9223372036854775807) (b1 : -9223372036854775808 ≤ b0) (b2 : b0 ≤ 9223372036854775807) :
    Con Tryz.prog [] 4 [.agg [.raw (.int .i64 a0), .raw (.int .i64 b0), .rs ta tc (turnsC TT)]] P [eT] fun x P' H' => x = .raw (.bool true) := by
  obtain ⟨p, hpe⟩ : ∃ p : Nat, (p : Int) = 1 + a0 % 20 := ⟨(1 + a0 % 20).toNat, by have := Int.emod_nonneg a0 (show (20 : Int) ≠ 0 by omega); omega⟩
  obtain ⟨more, hme⟩ : ∃ m : Nat, (m : Int) = b0 % 4 := ⟨(b0 % 4).toNat, by have := Int.emod_nonneg b0 (show (4 : Int) ≠ 0 by omega); omega⟩
  have hp1 : 1 ≤ p := by have := Int.emod_nonneg a0 (show (20 : Int) ≠ 0 by omega); omega
  have hp : p ≤ 20 := by have := Int.emod_lt_of_pos a0 (show (0 : Int) < 20 by omega); omega
  have hmo : more ≤ 3 := by have := Int.emod_lt_of_pos b0 (show (0 : Int) < 4 by omega); omega
  obtain ⟨n, hn⟩ : ∃ n, n = 4 * p + 1 + more := ⟨_, rfl⟩
  have hTl : (TT.map tnEnc).length = TT.length := List.length_map ..
  refine con_of_fun T_good (by kernel_rfl) Tryz.call4 Tryz.func4 (by kernel_rfl) (by show 1 ≤ _; decide +kernel) ?_
  ((set_option smartUnfolding false in conv => whnf) <;> (repeat (first | exact True.intro | ((first | refine ⟨rfl, ?_⟩ | refine ar (by omega) (by omega) ?_ | refine ar8 (by omega) (by omega) ?_ | refine ix (by omega) ?_ | refine IdxVC.mk 0 rfl (by omega) ?_ | refine BytesVC.mk _ rfl ?_ | refine DivVC.mk (by omega) (by omega) ?_); set_option smartUnfolding false in conv => whnf))))
  refine call_con (N := [30, 31, 32, 33]) (enteredT_con P a0 b0 ta tc (turnsC TT) a1 a2 b1 b2 p more hpe hme n hn) ?_
  ((set_option smartUnfolding false in conv => whnf) <;> (repeat (first | exact True.intro | ((first | refine ⟨rfl, ?_⟩ | refine ar (by omega) (by omega) ?_ | refine ar8 (by omega) (by omega) ?_ | refine ix (by omega) ?_ | refine IdxVC.mk 0 rfl (by omega) ?_ | refine BytesVC.mk _ rfl ?_ | refine DivVC.mk (by omega) (by omega) ?_); set_option smartUnfolding false in conv => whnf))))
  rintro x P1 H' - ⟨pc, D0, hD0, h00, rfl, rfl, rfl⟩
  ((set_option smartUnfolding false in conv => whnf) <;> (repeat (first | exact True.intro | ((first | refine ⟨rfl, ?_⟩ | refine ar (by omega) (by omega) ?_ | refine ar8 (by omega) (by omega) ?_ | refine ix (by omega) ?_ | refine IdxVC.mk 0 rfl (by omega) ?_ | refine BytesVC.mk _ rfl ?_ | refine DivVC.mk (by omega) (by omega) ?_); set_option smartUnfolding false in conv => whnf))))
  refine call_con (N := []) (fixed_con _) ?_
  ((set_option smartUnfolding false in conv => whnf) <;> (repeat (first | exact True.intro | ((first | refine ⟨rfl, ?_⟩ | refine ar (by omega) (by omega) ?_ | refine ar8 (by omega) (by omega) ?_ | refine ix (by omega) ?_ | refine IdxVC.mk 0 rfl (by omega) ?_ | refine BytesVC.mk _ rfl ?_ | refine DivVC.mk (by omega) (by omega) ?_); set_option smartUnfolding false in conv => whnf))))
  rintro x P2 H' - ⟨rfl, rfl, rfl⟩
  ((set_option smartUnfolding false in conv => whnf) <;> (repeat (first | exact True.intro | ((first | refine ⟨rfl, ?_⟩ | refine ar (by omega) (by omega) ?_ | refine ar8 (by omega) (by omega) ?_ | refine ix (by omega) ?_ | refine IdxVC.mk 0 rfl (by omega) ?_ | refine BytesVC.mk _ rfl ?_ | refine DivVC.mk (by omega) (by omega) ?_); set_option smartUnfolding false in conv => whnf))))
  refine .mk (β := { x : (Int × Hp × Dev) × (List (List UInt8) × Nat) // (0 ≤ x.1.1 ∧ x.1.1 ≤ (TT.length : Int)) ∧ Rm x.1.2.2 n p x.2.1 ∧ x.1.2.2.armed = 0 }) (fun ⟨((kk, P, D), (L, pc)), _⟩ => ⟨[(5, .raw (.int .i64 kk)), (4, .raw (.bool true)), (3, .ptr 8 0), (1, .ptr 1 0)], P, [rmC 8 100008 200008 p more 300008 pc, rowC 300008 pc L, lgC 200008 100008 p (.raw .nilIface), dC 100008 D, eT, .blk 1 24 [.raw (.int .i64 a0), .raw (.int .i64 b0), .rs ta tc (turnsC TT)]]⟩) (fun b => ((TT.length : Int) - b.1.1.1).toNat) ⟨((0, P2, D0), (List.replicate p (zrs 1024), pc)), ⟨by simp, hD0, h00⟩⟩ ?_ ?_
  · ((set_option smartUnfolding false in conv => whnf) <;> (repeat (first | exact True.intro | ((first | refine ⟨rfl, ?_⟩ | refine ar (by omega) (by omega) ?_ | refine ar8 (by omega) (by omega) ?_ | refine ix (by omega) ?_ | refine IdxVC.mk 0 rfl (by omega) ?_ | refine BytesVC.mk _ rfl ?_ | refine DivVC.mk (by omega) (by omega) ?_); set_option smartUnfolding false in conv => whnf))))
  · rintro ⟨⟨⟨kk, P3, D⟩, ⟨L, pc⟩⟩, ⟨hk', hD', h0'⟩⟩ -
    have hk : 0 ≤ kk ∧ kk ≤ (TT.length : Int) := hk'
    have hD : Rm D n p L := hD'
    have h0 : D.armed = 0 := h0'
    ((set_option smartUnfolding false in conv => whnf) <;> (repeat (first | exact True.intro | ((first | refine ⟨rfl, ?_⟩ | refine ar (by omega) (by omega) ?_ | refine ar8 (by omega) (by omega) ?_ | refine ix (by omega) ?_ | refine IdxVC.mk 0 rfl (by omega) ?_ | refine BytesVC.mk _ rfl ?_ | refine DivVC.mk (by omega) (by omega) ?_); set_option smartUnfolding false in conv => whnf))))
    refine bxd (fun hl => ?_) (fun hl => ?_)
    · have hl : kk < (TT.length : Int) := by have h : kk < ((TT.map tnEnc).length : Int) := hl; omega
      ((set_option smartUnfolding false in conv => whnf) <;> (repeat (first | exact True.intro | ((first | refine ⟨rfl, ?_⟩ | refine ar (by omega) (by omega) ?_ | refine ar8 (by omega) (by omega) ?_ | refine ix (by omega) ?_ | refine IdxVC.mk 0 rfl (by omega) ?_ | refine BytesVC.mk _ rfl ?_ | refine DivVC.mk (by omega) (by omega) ?_); set_option smartUnfolding false in conv => whnf))))
      refine bxd (fun hl2 => ?_) (fun hl2 => ?_)
      · obtain ⟨k, hkk⟩ : ∃ k : Nat, kk = (k : Int) := ⟨kk.toNat, by omega⟩
        have hlk : k < TT.length := by omega
        obtain ⟨t, ht⟩ : ∃ t, TT[k]? = some t := ⟨TT[k], List.getElem?_eq_getElem hlk⟩
        have htm : t ∈ TT := List.mem_of_getElem? ht
        have hld : (TT.map tnEnc)[k]? = some (tnEnc t) := by rw [List.getElem?_map, ht]; rfl
        obtain ⟨hT0, hF⟩ := hTT t htm
        have hT : ∀ x ∈ t.T, -9223372036854775808 ≤ x.1 ∧ x.1 ≤ 9223372036854775807 := fun x hx => of_decide_eq_true (List.all_eq_true.1 hT0 x hx)
        ((set_option smartUnfolding false in conv => whnf) <;> (repeat (first | exact True.intro | ((first | refine ⟨rfl, ?_⟩ | refine ar (by omega) (by omega) ?_ | refine ar8 (by omega) (by omega) ?_ | refine ix (by omega) ?_ | refine IdxVC.mk 0 rfl (by omega) ?_ | refine BytesVC.mk _ rfl ?_ | refine DivVC.mk (by omega) (by omega) ?_); set_option smartUnfolding false in conv => whnf))))
        refine ⟨show 0 < 4 by omega, ?_⟩
        refine IdxVC.mk k hkk (by show k < (TT.map tnEnc).length; omega) ?_
        ((set_option smartUnfolding false in conv => whnf) <;> (repeat (first | exact True.intro | ((first | refine ⟨rfl, ?_⟩ | refine ar (by omega) (by omega) ?_ | refine ar8 (by omega) (by omega) ?_ | refine ix (by omega) ?_ | refine IdxVC.mk 0 rfl (by omega) ?_ | refine BytesVC.mk _ rfl ?_ | refine DivVC.mk (by omega) (by omega) ?_); set_option smartUnfolding false in conv => whnf))))
        refine .mk (tnEnc t) hld ?_
        ((set_option smartUnfolding false in conv => whnf) <;> (repeat (first | exact True.intro | ((first | refine ⟨rfl, ?_⟩ | refine ar (by omega) (by omega) ?_ | refine ar8 (by omega) (by omega) ?_ | refine ix (by omega) ?_ | refine IdxVC.mk 0 rfl (by omega) ?_ | refine BytesVC.mk _ rfl ?_ | refine DivVC.mk (by omega) (by omega) ?_); set_option smartUnfolding false in conv => whnf))))
        refine call_conR [(301, 200008), (303, 300008)] (plays_con _ n p more pc L hp1 hp hmo hn D hD h0 t.pa t.pc t.T hT t.cr t.an t.fa t.fc t.F hF) ?_
        ((set_option smartUnfolding false in conv => whnf) <;> (repeat (first | exact True.intro | ((first | refine ⟨rfl, ?_⟩ | refine ar (by omega) (by omega) ?_ | refine ar8 (by omega) (by omega) ?_ | refine ix (by omega) ?_ | refine IdxVC.mk 0 rfl (by omega) ?_ | refine BytesVC.mk _ rfl ?_ | refine DivVC.mk (by omega) (by omega) ?_); set_option smartUnfolding false in conv => whnf))))
        rintro x P4 H' - ⟨D4, L4, pc4, hD4, h04, rfl, rfl⟩
        ((set_option smartUnfolding false in conv => whnf) <;> (repeat (first | exact True.intro | ((first | refine ⟨rfl, ?_⟩ | refine ar (by omega) (by omega) ?_ | refine ar8 (by omega) (by omega) ?_ | refine ix (by omega) ?_ | refine IdxVC.mk 0 rfl (by omega) ?_ | refine BytesVC.mk _ rfl ?_ | refine DivVC.mk (by omega) (by omega) ?_); set_option smartUnfolding false in conv => whnf))))
        refine ⟨show 0 < 4 by omega, ?_⟩
        refine IdxVC.mk k hkk (by show k < (TT.map tnEnc).length; omega) ?_
        ((set_option smartUnfolding false in conv => whnf) <;> (repeat (first | exact True.intro | ((first | refine ⟨rfl, ?_⟩ | refine ar (by omega) (by omega) ?_ | refine ar8 (by omega) (by omega) ?_ | refine ix (by omega) ?_ | refine IdxVC.mk 0 rfl (by omega) ?_ | refine BytesVC.mk _ rfl ?_ | refine DivVC.mk (by omega) (by omega) ?_); set_option smartUnfolding false in conv => whnf))))
        refine ⟨show 3 < 4 by omega, ?_⟩
        ((set_option smartUnfolding false in conv => whnf) <;> (repeat (first | exact True.intro | ((first | refine ⟨rfl, ?_⟩ | refine ar (by omega) (by omega) ?_ | refine ar8 (by omega) (by omega) ?_ | refine ix (by omega) ?_ | refine IdxVC.mk 0 rfl (by omega) ?_ | refine BytesVC.mk _ rfl ?_ | refine DivVC.mk (by omega) (by omega) ?_); set_option smartUnfolding false in conv => whnf))))
        refine .mk (tnEnc t) hld ?_
        ((set_option smartUnfolding false in conv => whnf) <;> (repeat (first | exact True.intro | ((first | refine ⟨rfl, ?_⟩ | refine ar (by omega) (by omega) ?_ | refine ar8 (by omega) (by omega) ?_ | refine ix (by omega) ?_ | refine IdxVC.mk 0 rfl (by omega) ?_ | refine BytesVC.mk _ rfl ?_ | refine DivVC.mk (by omega) (by omega) ?_); set_option smartUnfolding false in conv => whnf))))
        obtain ⟨an, han⟩ : ∃ an, an = t.an := ⟨_, rfl⟩
        rw [← han]
        cases an with
        | false =>
          ((set_option smartUnfolding false in conv => whnf) <;> (repeat (first | exact True.intro | ((first | refine ⟨rfl, ?_⟩ | refine ar (by omega) (by omega) ?_ | refine ar8 (by omega) (by omega) ?_ | refine ix (by omega) ?_ | refine IdxVC.mk 0 rfl (by omega) ?_ | refine BytesVC.mk _ rfl ?_ | refine DivVC.mk (by omega) (by omega) ?_); set_option smartUnfolding false in conv => whnf))))
          refine ⟨⟨((kk + 1, P4, D4), (L4, pc4)), ⟨⟨show 0 ≤ kk + 1 by omega, show kk + 1 ≤ (TT.length : Int) by omega⟩, hD4, h04⟩⟩, show ((TT.length : Int) - (kk + 1)).toNat < ((TT.length : Int) - kk).toNat by omega, ?_⟩
          ((set_option smartUnfolding false in conv => whnf) <;> (repeat (first | exact True.intro | ((first | refine ⟨rfl, ?_⟩ | refine ar (by omega) (by omega) ?_ | refine ar8 (by omega) (by omega) ?_ | refine ix (by omega) ?_ | refine IdxVC.mk 0 rfl (by omega) ?_ | refine BytesVC.mk _ rfl ?_ | refine DivVC.mk (by omega) (by omega) ?_); set_option smartUnfolding false in conv => whnf))))
        | true =>
          ((set_option smartUnfolding false in conv => whnf) <;> (repeat (first | exact True.intro | ((first | refine ⟨rfl, ?_⟩ | refine ar (by omega) (by omega) ?_ | refine ar8 (by omega) (by omega) ?_ | refine ix (by omega) ?_ | refine IdxVC.mk 0 rfl (by omega) ?_ | refine BytesVC.mk _ rfl ?_ | refine DivVC.mk (by omega) (by omega) ?_); set_option smartUnfolding false in conv => whnf))))
          refine call_conR [(300, 100008), (301, 200008)] (anew_con _ n p more pc4 L4 hp1 hp hmo hn D4 hD4) ?_
          ((set_option smartUnfolding false in conv => whnf) <;> (repeat (first | exact True.intro | ((first | refine ⟨rfl, ?_⟩ | refine ar (by omega) (by omega) ?_ | refine ar8 (by omega) (by omega) ?_ | refine ix (by omega) ?_ | refine IdxVC.mk 0 rfl (by omega) ?_ | refine BytesVC.mk _ rfl ?_ | refine DivVC.mk (by omega) (by omega) ?_); set_option smartUnfolding false in conv => whnf))))
          rintro x P5 H' - ⟨D5, hD5, h05, rfl, rfl⟩
          ((set_option smartUnfolding false in conv => whnf) <;> (repeat (first | exact True.intro | ((first | refine ⟨rfl, ?_⟩ | refine ar (by omega) (by omega) ?_ | refine ar8 (by omega) (by omega) ?_ | refine ix (by omega) ?_ | refine IdxVC.mk 0 rfl (by omega) ?_ | refine BytesVC.mk _ rfl ?_ | refine DivVC.mk (by omega) (by omega) ?_); set_option smartUnfolding false in conv => whnf))))
          refine ⟨⟨((kk + 1, P5, D5), (L4, pc4)), ⟨⟨show 0 ≤ kk + 1 by omega, show kk + 1 ≤ (TT.length : Int) by omega⟩, hD5, h05⟩⟩, show ((TT.length : Int) - (kk + 1)).toNat < ((TT.length : Int) - kk).toNat by omega, ?_⟩
          ((set_option smartUnfolding false in conv => whnf) <;> (repeat (first | exact True.intro | ((first | refine ⟨rfl, ?_⟩ | refine ar (by omega) (by omega) ?_ | refine ar8 (by omega) (by omega) ?_ | refine ix (by omega) ?_ | refine IdxVC.mk 0 rfl (by omega) ?_ | refine BytesVC.mk _ rfl ?_ | refine DivVC.mk (by omega) (by omega) ?_); set_option smartUnfolding false in conv => whnf))))
      · ((set_option smartUnfolding false in conv => whnf) <;> (repeat (first | exact True.intro | ((first | refine ⟨rfl, ?_⟩ | refine ar (by omega) (by omega) ?_ | refine ar8 (by omega) (by omega) ?_ | refine ix (by omega) ?_ | refine IdxVC.mk 0 rfl (by omega) ?_ | refine BytesVC.mk _ rfl ?_ | refine DivVC.mk (by omega) (by omega) ?_); set_option smartUnfolding false in conv => whnf))))
    · ((set_option smartUnfolding false in conv => whnf) <;> (repeat (first | exact True.intro | ((first | refine ⟨rfl, ?_⟩ | refine ar (by omega) (by omega) ?_ | refine ar8 (by omega) (by omega) ?_ | refine ix (by omega) ?_ | refine IdxVC.mk 0 rfl (by omega) ?_ | refine BytesVC.mk _ rfl ?_ | refine DivVC.mk (by omega) (by omega) ?_); set_option smartUnfolding false in conv => whnf))))
end Go.Proofs.YtpaebopmppbjbaaGreatDoor
