/- The walk of WalWhole, by the engine. -/
import Derived.Test.YtpaebopmppbjbaaGreatDoorWx
import Derived.Test.YtpaebopmppbjbaaGreatDoorWi
set_option linter.unusedVariables false
set_option linter.unusedSimpArgs false
namespace Go.Proofs.YtpaebopmppbjbaaGreatDoor
open Go Go.RowKit Go.Le Go.Eng
theorem plays_con (P : Hp) (n p more pc : Nat) (L : List (List UInt8)) (hp1 : 1 ≤ p) (hp : p ≤ 20) (hmo : more ≤ 3) (hn : n = 4 * p + 1 + more) (D : Dev) (hD : Rm D n p L) (h0 : D.armed = 0) (ta : Option Addr) (tc : Nat) (T : List Pg0) (hT : ∀ x ∈ T, -9223372036854775808 ≤ x.1 ∧ x.1 ≤ 9223372036854775807) (cr an : Bool) (fa : Option Addr) (fc : Nat) (F : List Fl)
    (hF : ∀ x ∈ F, (-9223372036854775808 ≤ x.step ∧ x.step ≤ 9223372036854775807) ∧ x.loss.ok ∧ x.loss.keep.length ≤ 1000000000) :
    Con Tryz.prog [0, 300, 302] 7 [.ptr 302 0, turnV ta tc T cr fa fc F an] P [rmC 302 300 301 p more 303 pc, rowC 303 pc L, lgC 301 300 p (.raw .nilIface), dC 300 D, eT] fun x P' H' =>
      ∃ D' L' pc', Rm D' n p L' ∧ D'.armed = 0 ∧ x = .raw (.bool true) ∧ H' = [rmC 302 300 301 p more 303 pc', rowC 303 pc' L', lgC 301 300 p (.raw .nilIface), dC 300 D', eT] := by
  have hq : (cr = false ∨ F = []) → _ := fun h => ((playsQ_con P n p more pc L hp1 hp hmo hn D hD h0 ta tc T hT an fa fc F cr h).weakF (F' := [0, 300, 302]) (fun m hm => by
    simp only [hasN] at hm ⊢
    split at hm
    · rfl
    · split at hm
      · rfl
      · split
        · rfl
        · split at hm
          · rename_i h1 _ h2; simp [h2]
          · cases hm)).know eT (fun ρ => by unfold eT; simp only [Ck.den]) (fun ρ ρ' wb P P' h => h)
  have hmono : (cr = false ∨ F = []) → _ := fun h => (hq h).mono (post' := fun x P' H' => ∃ D' L' pc', Rm D' n p L' ∧ D'.armed = 0 ∧ x = .raw (.bool true) ∧ H' = [rmC 302 300 301 p more 303 pc', rowC 303 pc' L', lgC 301 300 p (.raw .nilIface), dC 300 D', eT]) (by
    rintro x P' H' ⟨H1, rfl, D', L', pc', h1, h2, h3, rfl⟩
    exact ⟨D', L', pc', h1, h2, h3, rfl⟩)
  cases cr with
  | false => exact hmono (.inl rfl)
  | true =>
    cases F with
    | nil => exact hmono (.inr rfl)
    | cons f0 r => exact playsC_con P n p more pc L hp1 hp hmo hn D hD h0 ta tc T hT an fa fc f0 r hF
set_option maxRecDepth 100000 in
set_option maxHeartbeats 4000000 in
theorem anew_con (P : Hp) (n p more pc : Nat) (L : List (List UInt8)) (hp1 : 1 ≤ p) (hp : p ≤ 20) (hmo : more ≤ 3) (hn : n = 4 * p + 1 + more) (D : Dev) (hD : Rm D n p L) :
    Con Tryz.prog [0, 302, 303] 15 [.ptr 302 0] P [rmC 302 300 301 p more 303 pc, rowC 303 pc L, lgC 301 300 p (.raw .nilIface), dC 300 D] fun x P' H' =>
      ∃ D', Rm D' n p L ∧ D'.armed = 0 ∧ x = .raw (.bool true) ∧ H' = [rmC 302 300 301 p more 303 pc, rowC 303 pc L, lgC 301 300 p (.raw .nilIface), dC 300 D'] := by
  have hro : roomOf n = p := give_room n p more hp1 hp hmo hn
  have hfr := hD.fresh (by omega) (by omega)
  have hop := hfr.open_clean hro (by omega) (by omega)
  refine Con.ren (Con.sub (con_of_fun T_good (by kernel_rfl) Tryz.call15 Tryz.func15 (by kernel_rfl) (by show 1 ≤ _; decide +kernel) ?_))
  ((set_option smartUnfolding false in conv => whnf) <;> (repeat (first | exact True.intro | ((first | refine ⟨rfl, ?_⟩ | refine ar (by omega) (by omega) ?_ | refine ar8 (by omega) (by omega) ?_ | refine ix (by omega) ?_ | refine IdxVC.mk 0 rfl (by omega) ?_ | refine BytesVC.mk _ rfl ?_ | refine DivVC.mk (by omega) (by omega) ?_); set_option smartUnfolding false in conv => whnf))))
  refine call_con (N := [22]) (Image_con _ D) ?_
  ((set_option smartUnfolding false in conv => whnf) <;> (repeat (first | exact True.intro | ((first | refine ⟨rfl, ?_⟩ | refine ar (by omega) (by omega) ?_ | refine ar8 (by omega) (by omega) ?_ | refine ix (by omega) ?_ | refine IdxVC.mk 0 rfl (by omega) ?_ | refine BytesVC.mk _ rfl ?_ | refine DivVC.mk (by omega) (by omega) ?_); set_option smartUnfolding false in conv => whnf))))
  rintro x P1 H' - ⟨cap, rfl, rfl, rfl⟩
  ((set_option smartUnfolding false in conv => whnf) <;> (repeat (first | exact True.intro | ((first | refine ⟨rfl, ?_⟩ | refine ar (by omega) (by omega) ?_ | refine ar8 (by omega) (by omega) ?_ | refine ix (by omega) ?_ | refine IdxVC.mk 0 rfl (by omega) ?_ | refine BytesVC.mk _ rfl ?_ | refine DivVC.mk (by omega) (by omega) ?_); set_option smartUnfolding false in conv => whnf))))
  refine call_con (N := [20]) (Load_con _ D.img cap ⟨n, hD.live.img, by omega, by omega⟩) ?_
  ((set_option smartUnfolding false in conv => whnf) <;> (repeat (first | exact True.intro | ((first | refine ⟨rfl, ?_⟩ | refine ar (by omega) (by omega) ?_ | refine ar8 (by omega) (by omega) ?_ | refine ix (by omega) ?_ | refine IdxVC.mk 0 rfl (by omega) ?_ | refine BytesVC.mk _ rfl ?_ | refine DivVC.mk (by omega) (by omega) ?_); set_option smartUnfolding false in conv => whnf))))
  rintro x P2 H' - ⟨rfl, rfl, rfl⟩
  ((set_option smartUnfolding false in conv => whnf) <;> (repeat (first | exact True.intro | ((first | refine ⟨rfl, ?_⟩ | refine ar (by omega) (by omega) ?_ | refine ar8 (by omega) (by omega) ?_ | refine ix (by omega) ?_ | refine IdxVC.mk 0 rfl (by omega) ?_ | refine BytesVC.mk _ rfl ?_ | refine DivVC.mk (by omega) (by omega) ?_); set_option smartUnfolding false in conv => whnf))))
  obtain ⟨D2, hD2⟩ : ∃ D2, D2 = Dev.fresh D.img := ⟨_, rfl⟩
  have hc0 : D2.calls = 0 := by rw [hD2]; rfl
  have ha0 : D2.armed = 0 := by rw [hD2]; rfl
  rw [← hD2] at hfr hop
  rw [← hD2]
  refine call_con (N := [21]) (Open_con _ D2 D2 p false (by rw [hfr.pend]; simp) hop) ?_
  ((set_option smartUnfolding false in conv => whnf) <;> (repeat (first | exact True.intro | ((first | refine ⟨rfl, ?_⟩ | refine ar (by omega) (by omega) ?_ | refine ar8 (by omega) (by omega) ?_ | refine ix (by omega) ?_ | refine IdxVC.mk 0 rfl (by omega) ?_ | refine BytesVC.mk _ rfl ?_ | refine DivVC.mk (by omega) (by omega) ?_); set_option smartUnfolding false in conv => whnf))))
  rintro x P3 H' - ⟨rfl, rfl, rfl⟩
  ((set_option smartUnfolding false in conv => whnf) <;> (repeat (first | exact True.intro | ((first | refine ⟨rfl, ?_⟩ | refine ar (by omega) (by omega) ?_ | refine ar8 (by omega) (by omega) ?_ | refine ix (by omega) ?_ | refine IdxVC.mk 0 rfl (by omega) ?_ | refine BytesVC.mk _ rfl ?_ | refine DivVC.mk (by omega) (by omega) ?_); set_option smartUnfolding false in conv => whnf))))
  have hcc := Calls_con P3 D2
  rw [hc0] at hcc
  refine call_con (N := []) hcc ?_
  ((set_option smartUnfolding false in conv => whnf) <;> (repeat (first | exact True.intro | ((first | refine ⟨rfl, ?_⟩ | refine ar (by omega) (by omega) ?_ | refine ar8 (by omega) (by omega) ?_ | refine ix (by omega) ?_ | refine IdxVC.mk 0 rfl (by omega) ?_ | refine BytesVC.mk _ rfl ?_ | refine DivVC.mk (by omega) (by omega) ?_); set_option smartUnfolding false in conv => whnf))))
  rintro x P4 H' - ⟨rfl, rfl, rfl⟩
  ((set_option smartUnfolding false in conv => whnf) <;> (repeat (first | exact True.intro | ((first | refine ⟨rfl, ?_⟩ | refine ar (by omega) (by omega) ?_ | refine ar8 (by omega) (by omega) ?_ | refine ix (by omega) ?_ | refine IdxVC.mk 0 rfl (by omega) ?_ | refine BytesVC.mk _ rfl ?_ | refine DivVC.mk (by omega) (by omega) ?_); set_option smartUnfolding false in conv => whnf))))
  refine call_con (N := []) (clean_con _ p more pc L hfr.pages.len hfr.pages.each hp hmo D2 hfr.pend (hfr.img hn)) ?_
  ((set_option smartUnfolding false in conv => whnf) <;> (repeat (first | exact True.intro | ((first | refine ⟨rfl, ?_⟩ | refine ar (by omega) (by omega) ?_ | refine ar8 (by omega) (by omega) ?_ | refine ix (by omega) ?_ | refine IdxVC.mk 0 rfl (by omega) ?_ | refine BytesVC.mk _ rfl ?_ | refine DivVC.mk (by omega) (by omega) ?_); set_option smartUnfolding false in conv => whnf))))
  rintro x P5 H' - ⟨rfl, rfl, rfl⟩
  ((set_option smartUnfolding false in conv => whnf) <;> (repeat (first | exact True.intro | ((first | refine ⟨rfl, ?_⟩ | refine ar (by omega) (by omega) ?_ | refine ar8 (by omega) (by omega) ?_ | refine ix (by omega) ?_ | refine IdxVC.mk 0 rfl (by omega) ?_ | refine BytesVC.mk _ rfl ?_ | refine DivVC.mk (by omega) (by omega) ?_); set_option smartUnfolding false in conv => whnf))))
  refine ⟨[rmC 302 16 27 p more 303 pc, rowC 303 pc L, lgC 27 16 p (.raw .nilIface), dC 16 D2], ?_⟩
  ((set_option smartUnfolding false in conv => whnf) <;> (repeat (first | exact True.intro | ((first | refine ⟨rfl, ?_⟩ | refine ar (by omega) (by omega) ?_ | refine ar8 (by omega) (by omega) ?_ | refine ix (by omega) ?_ | refine IdxVC.mk 0 rfl (by omega) ?_ | refine BytesVC.mk _ rfl ?_ | refine DivVC.mk (by omega) (by omega) ?_); set_option smartUnfolding false in conv => whnf))))
  refine ⟨[(302, 302), (16, 300), (27, 301), (303, 303)], rfl, rfl, ?_⟩
  ((set_option smartUnfolding false in conv => whnf) <;> (repeat (first | exact True.intro | ((first | refine ⟨rfl, ?_⟩ | refine ar (by omega) (by omega) ?_ | refine ar8 (by omega) (by omega) ?_ | refine ix (by omega) ?_ | refine IdxVC.mk 0 rfl (by omega) ?_ | refine BytesVC.mk _ rfl ?_ | refine DivVC.mk (by omega) (by omega) ?_); set_option smartUnfolding false in conv => whnf))))
  exact ⟨D2, hfr, ha0, rfl, rfl⟩
end Go.Proofs.YtpaebopmppbjbaaGreatDoor
