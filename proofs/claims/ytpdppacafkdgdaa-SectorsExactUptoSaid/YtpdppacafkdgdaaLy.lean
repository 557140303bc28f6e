/- The law's writes, by the engine. -/
import Derived.Test.YtpdppacafkdgdaaLx
set_option linter.unusedVariables false
set_option linter.unusedSimpArgs false
namespace Go.Proofs.Ytpdppacafkdgdaa
open Go Go.RowKit Go.Le Go.Eng
theorem str_app (a b : List UInt8) : ((⟨a.toArray⟩ : ByteArray) ++ (⟨b.toArray⟩ : ByteArray)) = ⟨(a ++ b).toArray⟩ := by
  apply ByteArray.ext
  simp
set_option maxRecDepth 100000 in
set_option maxHeartbeats 1000000 in
theorem writes_con (P : Hp) (bc lc : Nat) (D : Dev) (hD : D.ok) (c0 : 0 ≤ D.calls) (c1 : D.calls ≤ 1000000000) (ka : Option Addr) (kc : Nat) (zs : List Pr) (hz : zs.map Pr.p = D.pend) (hzl : zs.length ≤ 900000)
    (i : Int) (i1 : -9223372036854775808 ≤ i) (i2 : i ≤ 9223372036854775807) (ba : Option Addr) (bcap : Nat) (b : List UInt8) (hb : b.length ≤ 1000000000) :
    Con Try.prog [0, 300, 301] 47 [.ptr 0 0, .ptr 300 0, .raw (.int .i64 i), .bs ba bcap b] P (dC 0 D :: rH bc lc D ka kc D.img zs) fun x P' H' => ∃ lc' zs', x = .raw (.bool true) ∧ zs'.map Pr.p = (D.write i b).1.pend ∧ H' = dC 0 (D.write i b).1 :: rH bc lc' (D.write i b).1 ka kc (D.write i b).1.img zs' := by
  have hpl : D.pend.length = zs.length := by rw [← hz, List.length_map]
  have hl2 : D.img.length ≤ 2097152 := by obtain ⟨n, h, h1, h2⟩ := hD.img; omega
  have hw := fun (P : Hp) (cap : Nat) => Write_con P D (by omega) i i1 i2 (b ++ [0x55, 0xaa]) b.length cap (by simp)
  have hr := fun P => RWrite_con P bc lc D hD hl2 c0 c1 ka kc zs hz hzl i i1 i2 ba bcap b
  obtain ⟨q, hq⟩ : ∃ q, q = D.write i b := ⟨_, rfl⟩
  rw [List.take_left (l₁ := b), ← hq] at hw
  rw [← hq] at hr ⊢
  refine Con.sub (Con.ren (con_of_fun T_good (by kernel_rfl) Try.call47 Try.func47 (by kernel_rfl) (by show 4 ≤ _; decide +kernel) ?_))
  obtain ⟨m2, hm2⟩ : ∃ m : List UInt8, m = [0x55, 0xaa] := ⟨_, rfl⟩
  have em : (⟨#[85, 170]⟩ : ByteArray) = ⟨m2.toArray⟩ := by rw [hm2]
  have hml : m2.length = 2 := by rw [hm2]; rfl
  rw [← hm2] at hw
  ((set_option smartUnfolding false in conv => whnf) <;> (repeat (first | exact True.intro | ((first | refine ⟨rfl, ?_⟩ | refine ar (by omega) (by omega) ?_ | refine ar8 (by omega) (by omega) ?_ | refine ix (by omega) ?_ | refine IdxVC.mk 0 rfl (by omega) ?_ | refine BytesVC.mk _ rfl ?_ | refine DivVC.mk (by omega) (by omega) ?_ | refine RemVC.mk (by omega) (by omega) ?_ | refine GhVC.mk _ _ _ rfl ?_); set_option smartUnfolding false in conv => whnf))))
  refine ⟨by show b.toArray.size + 2 ≤ _; simp; omega, ?_⟩
  rw [em, str_app]
  ((set_option smartUnfolding false in conv => whnf) <;> (repeat (first | exact True.intro | ((first | refine ⟨rfl, ?_⟩ | refine ar (by omega) (by omega) ?_ | refine ar8 (by omega) (by omega) ?_ | refine ix (by omega) ?_ | refine IdxVC.mk 0 rfl (by omega) ?_ | refine BytesVC.mk _ rfl ?_ | refine DivVC.mk (by omega) (by omega) ?_ | refine RemVC.mk (by omega) (by omega) ?_ | refine GhVC.mk _ _ _ rfl ?_); set_option smartUnfolding false in conv => whnf))))
  refine .mk (b ++ m2) rfl (by simp; omega) (fun cap h1 h2 => ?_)
  have hcap : b.length + 2 ≤ cap := by simp [hml] at h1; omega
  ((set_option smartUnfolding false in conv => whnf) <;> (repeat (first | exact True.intro | ((first | refine ⟨rfl, ?_⟩ | refine ar (by omega) (by omega) ?_ | refine ar8 (by omega) (by omega) ?_ | refine ix (by omega) ?_ | refine IdxVC.mk 0 rfl (by omega) ?_ | refine BytesVC.mk _ rfl ?_ | refine DivVC.mk (by omega) (by omega) ?_ | refine RemVC.mk (by omega) (by omega) ?_ | refine GhVC.mk _ _ _ rfl ?_); set_option smartUnfolding false in conv => whnf))))
  refine .mk 0 b.length (by omega) (by omega) (by omega) (by omega) ?_
  rw [if_neg (show ¬ cap = 0 by omega)]
  ((set_option smartUnfolding false in conv => whnf) <;> (repeat (first | exact True.intro | ((first | refine ⟨rfl, ?_⟩ | refine ar (by omega) (by omega) ?_ | refine ar8 (by omega) (by omega) ?_ | refine ix (by omega) ?_ | refine IdxVC.mk 0 rfl (by omega) ?_ | refine BytesVC.mk _ rfl ?_ | refine DivVC.mk (by omega) (by omega) ?_ | refine RemVC.mk (by omega) (by omega) ?_ | refine GhVC.mk _ _ _ rfl ?_); set_option smartUnfolding false in conv => whnf))))
  refine call_con (N := []) (hw _ cap) ?_
  ((set_option smartUnfolding false in conv => whnf) <;> (repeat (first | exact True.intro | ((first | refine ⟨rfl, ?_⟩ | refine ar (by omega) (by omega) ?_ | refine ar8 (by omega) (by omega) ?_ | refine ix (by omega) ?_ | refine IdxVC.mk 0 rfl (by omega) ?_ | refine BytesVC.mk _ rfl ?_ | refine DivVC.mk (by omega) (by omega) ?_ | refine RemVC.mk (by omega) (by omega) ?_ | refine GhVC.mk _ _ _ rfl ?_); set_option smartUnfolding false in conv => whnf))))
  rintro x P1 H' - ⟨rfl, rfl, rfl⟩
  ((set_option smartUnfolding false in conv => whnf) <;> (repeat (first | exact True.intro | ((first | refine ⟨rfl, ?_⟩ | refine ar (by omega) (by omega) ?_ | refine ar8 (by omega) (by omega) ?_ | refine ix (by omega) ?_ | refine IdxVC.mk 0 rfl (by omega) ?_ | refine BytesVC.mk _ rfl ?_ | refine DivVC.mk (by omega) (by omega) ?_ | refine RemVC.mk (by omega) (by omega) ?_ | refine GhVC.mk _ _ _ rfl ?_); set_option smartUnfolding false in conv => whnf))))
  refine call_conR [(302, 302)] (hr _) ?_
  ((set_option smartUnfolding false in conv => whnf) <;> (repeat (first | exact True.intro | ((first | refine ⟨rfl, ?_⟩ | refine ar (by omega) (by omega) ?_ | refine ar8 (by omega) (by omega) ?_ | refine ix (by omega) ?_ | refine IdxVC.mk 0 rfl (by omega) ?_ | refine BytesVC.mk _ rfl ?_ | refine DivVC.mk (by omega) (by omega) ?_ | refine RemVC.mk (by omega) (by omega) ?_ | refine GhVC.mk _ _ _ rfl ?_); set_option smartUnfolding false in conv => whnf))))
  rintro x P2 H' - ⟨lc', zs', rfl, hz', rfl⟩
  ((set_option smartUnfolding false in conv => whnf) <;> (repeat (first | exact True.intro | ((first | refine ⟨rfl, ?_⟩ | refine ar (by omega) (by omega) ?_ | refine ar8 (by omega) (by omega) ?_ | refine ix (by omega) ?_ | refine IdxVC.mk 0 rfl (by omega) ?_ | refine BytesVC.mk _ rfl ?_ | refine DivVC.mk (by omega) (by omega) ?_ | refine RemVC.mk (by omega) (by omega) ?_ | refine GhVC.mk _ _ _ rfl ?_); set_option smartUnfolding false in conv => whnf))))
  refine bxd (fun _ => ?_) (fun h => (h rfl).elim)
  ((set_option smartUnfolding false in conv => whnf) <;> (repeat (first | exact True.intro | ((first | refine ⟨rfl, ?_⟩ | refine ar (by omega) (by omega) ?_ | refine ar8 (by omega) (by omega) ?_ | refine ix (by omega) ?_ | refine IdxVC.mk 0 rfl (by omega) ?_ | refine BytesVC.mk _ rfl ?_ | refine DivVC.mk (by omega) (by omega) ?_ | refine RemVC.mk (by omega) (by omega) ?_ | refine GhVC.mk _ _ _ rfl ?_); set_option smartUnfolding false in conv => whnf))))
  refine .mk (by show 0 + (b ++ m2).length ≤ (b ++ m2).length; omega) ?_
  ((set_option smartUnfolding false in conv => whnf) <;> (repeat (first | exact True.intro | ((first | refine ⟨rfl, ?_⟩ | refine ar (by omega) (by omega) ?_ | refine ar8 (by omega) (by omega) ?_ | refine ix (by omega) ?_ | refine IdxVC.mk 0 rfl (by omega) ?_ | refine BytesVC.mk _ rfl ?_ | refine DivVC.mk (by omega) (by omega) ?_ | refine RemVC.mk (by omega) (by omega) ?_ | refine GhVC.mk _ _ _ rfl ?_); set_option smartUnfolding false in conv => whnf))))
  refine ⟨by show b.toArray.size + m2.toArray.size ≤ _; simp; omega, ?_⟩
  rw [str_app]
  ((set_option smartUnfolding false in conv => whnf) <;> (repeat (first | exact True.intro | ((first | refine ⟨rfl, ?_⟩ | refine ar (by omega) (by omega) ?_ | refine ar8 (by omega) (by omega) ?_ | refine ix (by omega) ?_ | refine IdxVC.mk 0 rfl (by omega) ?_ | refine BytesVC.mk _ rfl ?_ | refine DivVC.mk (by omega) (by omega) ?_ | refine RemVC.mk (by omega) (by omega) ?_ | refine GhVC.mk _ _ _ rfl ?_); set_option smartUnfolding false in conv => whnf))))
  refine .mk true (by rw [List.drop_zero, List.take_length]; exact beq_self_eq_true _) ?_
  ((set_option smartUnfolding false in conv => whnf) <;> (repeat (first | exact True.intro | ((first | refine ⟨rfl, ?_⟩ | refine ar (by omega) (by omega) ?_ | refine ar8 (by omega) (by omega) ?_ | refine ix (by omega) ?_ | refine IdxVC.mk 0 rfl (by omega) ?_ | refine BytesVC.mk _ rfl ?_ | refine DivVC.mk (by omega) (by omega) ?_ | refine RemVC.mk (by omega) (by omega) ?_ | refine GhVC.mk _ _ _ rfl ?_); set_option smartUnfolding false in conv => whnf))))
  refine .mk (β := { y : Int × List UInt8 // (0 ≤ y.1 ∧ y.1 ≤ (b.length : Int)) ∧ y.2.length = b.length + 2 }) (fun ⟨(kk, L), _⟩ => ⟨[(13, .raw (.int .i64 kk)), (12, .raw (.bool true)), (9, .sl 17 1 0 (b ++ m2).length cap), (3, .bs ba bcap b)], P2, .row 17 5 cap (Eng.bytes L) :: dC 0 q.1 :: rH bc lc' q.1 ka kc q.1.img zs'⟩) (fun y => ((b.length : Int) - y.1.1).toNat) ⟨(0, b ++ m2), ⟨by omega, by omega⟩, by simp [hml]⟩ ?_ ?_
  · ((set_option smartUnfolding false in conv => whnf) <;> (repeat (first | exact True.intro | ((first | refine ⟨rfl, ?_⟩ | refine ar (by omega) (by omega) ?_ | refine ar8 (by omega) (by omega) ?_ | refine ix (by omega) ?_ | refine IdxVC.mk 0 rfl (by omega) ?_ | refine BytesVC.mk _ rfl ?_ | refine DivVC.mk (by omega) (by omega) ?_ | refine RemVC.mk (by omega) (by omega) ?_ | refine GhVC.mk _ _ _ rfl ?_); set_option smartUnfolding false in conv => whnf))))
  · rintro ⟨⟨kk, L⟩, hk'⟩ -
    obtain ⟨⟨hk0, hk1⟩, hL⟩ : (0 ≤ kk ∧ kk ≤ (b.length : Int)) ∧ L.length = b.length + 2 := hk'
    ((set_option smartUnfolding false in conv => whnf) <;> (repeat (first | exact True.intro | ((first | refine ⟨rfl, ?_⟩ | refine ar (by omega) (by omega) ?_ | refine ar8 (by omega) (by omega) ?_ | refine ix (by omega) ?_ | refine IdxVC.mk 0 rfl (by omega) ?_ | refine BytesVC.mk _ rfl ?_ | refine DivVC.mk (by omega) (by omega) ?_ | refine RemVC.mk (by omega) (by omega) ?_ | refine GhVC.mk _ _ _ rfl ?_); set_option smartUnfolding false in conv => whnf))))
    refine bxd (fun h => ?_) (fun h => ?_)
    · obtain ⟨k, rfl⟩ : ∃ k : Nat, kk = (k : Int) := ⟨kk.toNat, by omega⟩
      have hlt : k < b.length := by omega
      obtain ⟨l0, hl0⟩ : ∃ y, L[k]? = some y := ⟨L[k], List.getElem?_eq_getElem (by omega)⟩
      ((set_option smartUnfolding false in conv => whnf) <;> (repeat (first | exact True.intro | ((first | refine ⟨rfl, ?_⟩ | refine ar (by omega) (by omega) ?_ | refine ar8 (by omega) (by omega) ?_ | refine ix (by omega) ?_ | refine IdxVC.mk 0 rfl (by omega) ?_ | refine BytesVC.mk _ rfl ?_ | refine DivVC.mk (by omega) (by omega) ?_ | refine RemVC.mk (by omega) (by omega) ?_ | refine GhVC.mk _ _ _ rfl ?_); set_option smartUnfolding false in conv => whnf))))
      refine IdxVC.mk k rfl (by simp [hml]; omega) ?_
      ((set_option smartUnfolding false in conv => whnf) <;> (repeat (first | exact True.intro | ((first | refine ⟨rfl, ?_⟩ | refine ar (by omega) (by omega) ?_ | refine ar8 (by omega) (by omega) ?_ | refine ix (by omega) ?_ | refine IdxVC.mk 0 rfl (by omega) ?_ | refine BytesVC.mk _ rfl ?_ | refine DivVC.mk (by omega) (by omega) ?_ | refine RemVC.mk (by omega) (by omega) ?_ | refine GhVC.mk _ _ _ rfl ?_); set_option smartUnfolding false in conv => whnf))))
      refine .mk l0 0xee (by rw [Nat.zero_add]; exact hl0) rfl (Nat.le_refl _) ?_
      ((set_option smartUnfolding false in conv => whnf) <;> (repeat (first | exact True.intro | ((first | refine ⟨rfl, ?_⟩ | refine ar (by omega) (by omega) ?_ | refine ar8 (by omega) (by omega) ?_ | refine ix (by omega) ?_ | refine IdxVC.mk 0 rfl (by omega) ?_ | refine BytesVC.mk _ rfl ?_ | refine DivVC.mk (by omega) (by omega) ?_ | refine RemVC.mk (by omega) (by omega) ?_ | refine GhVC.mk _ _ _ rfl ?_); set_option smartUnfolding false in conv => whnf))))
      refine ⟨⟨((k : Int) + 1, L.set (0 + k) 0xee), ⟨by omega, by omega⟩, by simp [hL]⟩, show ((b.length : Int) - ((k : Int) + 1)).toNat < ((b.length : Int) - (k : Int)).toNat by omega, ?_⟩
      ((set_option smartUnfolding false in conv => whnf) <;> (repeat (first | exact True.intro | ((first | refine ⟨rfl, ?_⟩ | refine ar (by omega) (by omega) ?_ | refine ar8 (by omega) (by omega) ?_ | refine ix (by omega) ?_ | refine IdxVC.mk 0 rfl (by omega) ?_ | refine BytesVC.mk _ rfl ?_ | refine DivVC.mk (by omega) (by omega) ?_ | refine RemVC.mk (by omega) (by omega) ?_ | refine GhVC.mk _ _ _ rfl ?_); set_option smartUnfolding false in conv => whnf))))
    · ((set_option smartUnfolding false in conv => whnf) <;> (repeat (first | exact True.intro | ((first | refine ⟨rfl, ?_⟩ | refine ar (by omega) (by omega) ?_ | refine ar8 (by omega) (by omega) ?_ | refine ix (by omega) ?_ | refine IdxVC.mk 0 rfl (by omega) ?_ | refine BytesVC.mk _ rfl ?_ | refine DivVC.mk (by omega) (by omega) ?_ | refine RemVC.mk (by omega) (by omega) ?_ | refine GhVC.mk _ _ _ rfl ?_); set_option smartUnfolding false in conv => whnf))))
      refine ⟨[(0, 0), (300, 300), (301, 301), (302, 302), (17, 601)], rfl, rfl, ?_⟩
      ((set_option smartUnfolding false in conv => whnf) <;> (repeat (first | exact True.intro | ((first | refine ⟨rfl, ?_⟩ | refine ar (by omega) (by omega) ?_ | refine ar8 (by omega) (by omega) ?_ | refine ix (by omega) ?_ | refine IdxVC.mk 0 rfl (by omega) ?_ | refine BytesVC.mk _ rfl ?_ | refine DivVC.mk (by omega) (by omega) ?_ | refine RemVC.mk (by omega) (by omega) ?_ | refine GhVC.mk _ _ _ rfl ?_); set_option smartUnfolding false in conv => whnf))))
      refine ⟨dC 0 q.1 :: rH bc lc' q.1 ka kc q.1.img zs', ?_⟩
      ((set_option smartUnfolding false in conv => whnf) <;> (repeat (first | exact True.intro | ((first | refine ⟨rfl, ?_⟩ | refine ar (by omega) (by omega) ?_ | refine ar8 (by omega) (by omega) ?_ | refine ix (by omega) ?_ | refine IdxVC.mk 0 rfl (by omega) ?_ | refine BytesVC.mk _ rfl ?_ | refine DivVC.mk (by omega) (by omega) ?_ | refine RemVC.mk (by omega) (by omega) ?_ | refine GhVC.mk _ _ _ rfl ?_); set_option smartUnfolding false in conv => whnf))))
      exact ⟨lc', zs', rfl, hz', rfl⟩
end Go.Proofs.Ytpdppacafkdgdaa
