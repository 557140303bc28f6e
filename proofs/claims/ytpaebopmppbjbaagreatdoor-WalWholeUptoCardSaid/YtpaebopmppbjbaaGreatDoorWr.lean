/- lethelaw09's reopens and anew, by the engine. -/
import Derived.Test.YtpaebopmppbjbaaGreatDoorWdM
set_option linter.unusedVariables false
set_option linter.unusedSimpArgs false
namespace Go.Eng
open Go Go.RowKit Go.Le
theorem Con.weakF {Pg : Program} {F F' : List Nat} {f : FuncId} {xs : List SV} {P : Hp} {pre : List Ck} {post : SV → Hp → List Ck → Prop} (h : Con Pg F f xs P pre post) (hF : ∀ n, hasN n F' = true → hasN n F = true) : Con Pg F' f xs P pre post :=
  ⟨h.1, fun ρ wb w R hM ho => (h.2 ρ wb w R hM ho).mono fun e w' ⟨ρ', x, P', H', h1, h2⟩ => ⟨ρ', x, P', H', fun n hn => h1 n (hF n hn), h2⟩⟩
/-- what is only knowledge goes along -/
theorem Con.know {Pg : Program} {F : List Nat} {f : FuncId} {xs : List SV} {P : Hp} {pre : List Ck} {post : SV → Hp → List Ck → Prop} (h : Con Pg F f xs P pre post) (X : Ck) (h1 : ∀ ρ, Ck.den ρ X = emp) (h2 : ∀ ρ ρ' wb P P', Ck.ok ρ wb P X → Ck.ok ρ' wb P' X) : Con Pg F f xs P (pre ++ [X]) fun x P' H' => ∃ H1, H' = H1 ++ [X] ∧ post x P' H1 := by
  have hs : ∀ ρ l, star ρ (l ++ [X]) = star ρ l := fun ρ l => by rw [star_append]; simp only [star, h1, sep_emp]
  refine ⟨h.1, fun ρ wb w R hM ho => ?_⟩
  have hok := okC_append.1 hM.ok
  have hm := hM.mem
  rw [hs] at hm
  refine (h.2 ρ wb w R ⟨hm, hok.1⟩ ho).mono ?_
  rintro e w' ⟨ρ', x, P', H', q1, q2, q3, q4, q5, q6⟩
  refine ⟨ρ', x, P', H' ++ [X], q1, q2, q3, ⟨?_, okC_append.2 ⟨q4.ok, h2 _ _ _ _ _ hok.2.1, trivial⟩⟩, q5, H', rfl, q6⟩
  rw [hs]
  exact q4.mem
end Go.Eng
namespace Go.Le
open Go Go.RowKit
theorem wipe_clean {n : Nat} {D : Dev} (h : Live D n) : ∀ (l : List Nat), (∀ i ∈ l, i < n ∧ D.last i = sect0) → ioWipe false l D = (.ok false, D)
  | [], _ => rfl
  | i :: r, hl => by
    have hi := hl i (by simp)
    show ((ioRead i).and _) D = _
    rw [Io.and_ok (h.read i hi.1), hi.2]
    have hz : allZero sect0 = true := by decide +kernel
    rw [if_pos hz]
    exact wipe_clean h r fun j hj => hl j (by simp [hj])
/-- OPEN of a clean disk calls nothing of it -/
theorem Rm.open_clean {D : Dev} {n p : Nat} {L : List (List UInt8)} (h : Rm D n p L) (hp : roomOf n = p) (hp0 : p ≠ 0) (hn : 4 * p + 1 ≤ n) : ioOpen D = (.ok (p, false), D) := by
  have h1 : ioBegun D = (.ok p, D) := by
    unfold ioBegun
    rw [h.live.down, h.live.n, hp, if_neg (by simp), if_neg hp0, if_pos h.pend]
  have hz : ∀ j, j < 2 * p + 1 → D.last j = sect0 := fun j hj => by rw [h.last j (by omega)]; unfold cleanAt; rw [if_pos hj]
  have h2 : ioAgain p D = (.ok false, D) := by
    unfold ioAgain
    rw [Io.and_ok (h.live.read 0 (by omega)), hz 0 (by omega)]
    unfold marked
    rw [if_pos (sect0_getD 511)]
    rfl
  have h3 : ioWiped (runOf 0 (2 * p + 1)) D = (.ok (), D) := by
    unfold ioWiped
    rw [Io.and_ok (wipe_clean h.live _ fun i hi => by have := (mem_runOf _ _ _).1 hi; exact ⟨by omega, hz i this.2⟩)]
    rfl
  unfold ioOpen
  rw [Io.and_ok h1, Io.and_ok h2, Io.and_ok h3]
  rfl
theorem Rm.fresh {D : Dev} {n p : Nat} {L : List (List UInt8)} (h : Rm D n p L) (h1 : 1 ≤ n) (h2 : n ≤ 4096) : Rm (Dev.fresh D.img) n p L :=
  ⟨⟨fresh_ok _ n h.live.img h1 h2, h.live.img, rfl⟩, rfl, fun j hj => by rw [← h.last j hj, ← Live.secs h.pend, ← Live.secs rfl]; rfl, h.pages⟩
end Go.Le
namespace Go.Proofs.YtpaebopmppbjbaaGreatDoor
open Go Go.RowKit Go.Le Go.Eng
/-- a disk that has fallen, and what is left of it -/
structure Fel (D : Dev) (n p : Nat) (L : List (List UInt8)) : Prop where
  fell : Fell D n
  rest : Le.Rest D n p L
set_option maxRecDepth 100000 in
set_option maxHeartbeats 4000000 in
theorem reopens_con (P : Hp) (n p more pc : Nat) (L : List (List UInt8)) (hp1 : 1 ≤ p) (hp : p ≤ 20) (hmo : more ≤ 3) (hn : n = 4 * p + 1 + more) (D : Dev) (hD : Fel D n p L) (fa : Option Addr) (fc : Nat) (F : List Fl) (hF : ∀ x ∈ F, (-9223372036854775808 ≤ x.step ∧ x.step ≤ 9223372036854775807) ∧ x.loss.ok ∧ x.loss.keep.length ≤ 1000000000) :
    Con Tryz.prog [0, 300, 301, 302, 303] 27 [.ptr 302 0, .rs fa fc (fallsC F)] P [rmC 302 300 301 p more 303 pc, dC 300 D, eT] fun x P' H' =>
      ∃ D', Rm D' n p L ∧ D'.armed = 0 ∧ x = .raw (.bool true) ∧ H' = [rmC 302 300 57 p more 303 pc, lgC 57 300 p (.raw .nilIface), dC 300 D', eT] := by
  have hFl : (F.map flEnc).length = F.length := List.length_map ..
  have hro : roomOf n = p := give_room n p more hp1 hp hmo hn
  refine Con.sub (con_of_fun T_good (by kernel_rfl) Tryz.call27 Tryz.func27 (by kernel_rfl) (by show 2 ≤ _; decide +kernel) ?_)
  ((set_option smartUnfolding false in conv => whnf) <;> (repeat (first | exact True.intro | ((first | refine ⟨rfl, ?_⟩ | refine ar (by omega) (by omega) ?_ | refine ar8 (by omega) (by omega) ?_ | refine ix (by omega) ?_ | refine IdxVC.mk 0 rfl (by omega) ?_ | refine BytesVC.mk _ rfl ?_ | refine DivVC.mk (by omega) (by omega) ?_); set_option smartUnfolding false in conv => whnf))))
  refine .mk (β := { x : Nat × Dev // (x.1 ≤ F.length ∧ x.1 ≤ 12) ∧ Fel x.2 n p L }) (fun ⟨(k, D), _⟩ => ⟨[(5, .raw (.int .i64 (k : Int))), (1, .rs fa fc (fallsC F)), (0, .ptr 302 0)], P, [rmC 302 300 301 p more 303 pc, dC 300 D, eT]⟩) (fun b => 13 - b.1.1) ⟨(0, D), ⟨by simp, hD⟩⟩ ?_ ?_
  · ((set_option smartUnfolding false in conv => whnf) <;> (repeat (first | exact True.intro | ((first | refine ⟨rfl, ?_⟩ | refine ar (by omega) (by omega) ?_ | refine ar8 (by omega) (by omega) ?_ | refine ix (by omega) ?_ | refine IdxVC.mk 0 rfl (by omega) ?_ | refine BytesVC.mk _ rfl ?_ | refine DivVC.mk (by omega) (by omega) ?_); set_option smartUnfolding false in conv => whnf))))
  · rintro ⟨⟨k, D⟩, ⟨hkF', hk12'⟩, hD'⟩ -
    have hkF : k ≤ F.length := hkF'
    have hk12 : k ≤ 12 := hk12'
    have hD : Fel D n p L := hD'
    obtain ⟨u1, u2, u3, u4⟩ := hD.fell.up
    have hru : Le.Rest D.up n p L := ⟨by rw [u3]; exact hD.rest.good, hD.rest.pages⟩
    ((set_option smartUnfolding false in conv => whnf) <;> (repeat (first | exact True.intro | ((first | refine ⟨rfl, ?_⟩ | refine ar (by omega) (by omega) ?_ | refine ar8 (by omega) (by omega) ?_ | refine ix (by omega) ?_ | refine IdxVC.mk 0 rfl (by omega) ?_ | refine BytesVC.mk _ rfl ?_ | refine DivVC.mk (by omega) (by omega) ?_); set_option smartUnfolding false in conv => whnf))))
    refine bxd (fun _ => ?_) (fun h => absurd (by show (k : Int) ≤ ((F.map flEnc).length : Int); omega) h)
    ((set_option smartUnfolding false in conv => whnf) <;> (repeat (first | exact True.intro | ((first | refine ⟨rfl, ?_⟩ | refine ar (by omega) (by omega) ?_ | refine ar8 (by omega) (by omega) ?_ | refine ix (by omega) ?_ | refine IdxVC.mk 0 rfl (by omega) ?_ | refine BytesVC.mk _ rfl ?_ | refine DivVC.mk (by omega) (by omega) ?_); set_option smartUnfolding false in conv => whnf))))
    refine bxd (fun _ => ?_) (fun h => absurd (by omega) h)
    ((set_option smartUnfolding false in conv => whnf) <;> (repeat (first | exact True.intro | ((first | refine ⟨rfl, ?_⟩ | refine ar (by omega) (by omega) ?_ | refine ar8 (by omega) (by omega) ?_ | refine ix (by omega) ?_ | refine IdxVC.mk 0 rfl (by omega) ?_ | refine BytesVC.mk _ rfl ?_ | refine DivVC.mk (by omega) (by omega) ?_); set_option smartUnfolding false in conv => whnf))))
    refine call_con (N := []) (Up_con _ D) ?_
    ((set_option smartUnfolding false in conv => whnf) <;> (repeat (first | exact True.intro | ((first | refine ⟨rfl, ?_⟩ | refine ar (by omega) (by omega) ?_ | refine ar8 (by omega) (by omega) ?_ | refine ix (by omega) ?_ | refine IdxVC.mk 0 rfl (by omega) ?_ | refine BytesVC.mk _ rfl ?_ | refine DivVC.mk (by omega) (by omega) ?_); set_option smartUnfolding false in conv => whnf))))
    rintro x P1 H' - ⟨rfl, rfl, rfl⟩
    ((set_option smartUnfolding false in conv => whnf) <;> (repeat (first | exact True.intro | ((first | refine ⟨rfl, ?_⟩ | refine ar (by omega) (by omega) ?_ | refine ar8 (by omega) (by omega) ?_ | refine ix (by omega) ?_ | refine IdxVC.mk 0 rfl (by omega) ?_ | refine BytesVC.mk _ rfl ?_ | refine DivVC.mk (by omega) (by omega) ?_); set_option smartUnfolding false in conv => whnf))))
    refine bxd (fun hl => ?_) (fun hl => ?_)
    · have hl : k < F.length := by have h : (k : Int) < ((F.map flEnc).length : Int) := hl; omega
      ((set_option smartUnfolding false in conv => whnf) <;> (repeat (first | exact True.intro | ((first | refine ⟨rfl, ?_⟩ | refine ar (by omega) (by omega) ?_ | refine ar8 (by omega) (by omega) ?_ | refine ix (by omega) ?_ | refine IdxVC.mk 0 rfl (by omega) ?_ | refine BytesVC.mk _ rfl ?_ | refine DivVC.mk (by omega) (by omega) ?_); set_option smartUnfolding false in conv => whnf))))
      refine bxd (fun hl2 => ?_) (fun hl2 => ?_)
      · obtain ⟨f0, hf0⟩ : ∃ f0, F[k]? = some f0 := ⟨F[k], List.getElem?_eq_getElem hl⟩
        have hfm : f0 ∈ F := List.mem_of_getElem? hf0
        have hld : (F.map flEnc)[k]? = some (flEnc f0) := by rw [List.getElem?_map, hf0]; rfl
        obtain ⟨hst, hlo, hkl⟩ := hF f0 hfm
        obtain ⟨s, hs⟩ : ∃ s : Nat, f0.step % 140 = s := ⟨(f0.step % 140).toNat, by have := Int.emod_nonneg f0.step (show (140 : Int) ≠ 0 by omega); omega⟩
        have hs1 : s < 140 := by have := Int.emod_lt_of_pos f0.step (show (0 : Int) < 140 by omega); omega
        have hpk := fun P => pick_con P f0.step 140 (by omega) (by omega) hst.1 hst.2
        rw [hs] at hpk
        have harm := u1.armd (1 + (s : Int)) f0.loss (by omega) (by omega) hlo
        ((set_option smartUnfolding false in conv => whnf) <;> (repeat (first | exact True.intro | ((first | refine ⟨rfl, ?_⟩ | refine ar (by omega) (by omega) ?_ | refine ar8 (by omega) (by omega) ?_ | refine ix (by omega) ?_ | refine IdxVC.mk 0 rfl (by omega) ?_ | refine BytesVC.mk _ rfl ?_ | refine DivVC.mk (by omega) (by omega) ?_); set_option smartUnfolding false in conv => whnf))))
        refine ⟨show 0 < 4 by omega, ?_⟩
        refine ix (by show k < (F.map flEnc).length; omega) ?_
        ((set_option smartUnfolding false in conv => whnf) <;> (repeat (first | exact True.intro | ((first | refine ⟨rfl, ?_⟩ | refine ar (by omega) (by omega) ?_ | refine ar8 (by omega) (by omega) ?_ | refine ix (by omega) ?_ | refine IdxVC.mk 0 rfl (by omega) ?_ | refine BytesVC.mk _ rfl ?_ | refine DivVC.mk (by omega) (by omega) ?_); set_option smartUnfolding false in conv => whnf))))
        refine ⟨show 0 < 4 by omega, ?_⟩
        ((set_option smartUnfolding false in conv => whnf) <;> (repeat (first | exact True.intro | ((first | refine ⟨rfl, ?_⟩ | refine ar (by omega) (by omega) ?_ | refine ar8 (by omega) (by omega) ?_ | refine ix (by omega) ?_ | refine IdxVC.mk 0 rfl (by omega) ?_ | refine BytesVC.mk _ rfl ?_ | refine DivVC.mk (by omega) (by omega) ?_); set_option smartUnfolding false in conv => whnf))))
        refine .mk (flEnc f0) hld ?_
        ((set_option smartUnfolding false in conv => whnf) <;> (repeat (first | exact True.intro | ((first | refine ⟨rfl, ?_⟩ | refine ar (by omega) (by omega) ?_ | refine ar8 (by omega) (by omega) ?_ | refine ix (by omega) ?_ | refine IdxVC.mk 0 rfl (by omega) ?_ | refine BytesVC.mk _ rfl ?_ | refine DivVC.mk (by omega) (by omega) ?_); set_option smartUnfolding false in conv => whnf))))
        refine ⟨show 0 < 4 by omega, ?_⟩
        refine ix (by show k < (F.map flEnc).length; omega) ?_
        ((set_option smartUnfolding false in conv => whnf) <;> (repeat (first | exact True.intro | ((first | refine ⟨rfl, ?_⟩ | refine ar (by omega) (by omega) ?_ | refine ar8 (by omega) (by omega) ?_ | refine ix (by omega) ?_ | refine IdxVC.mk 0 rfl (by omega) ?_ | refine BytesVC.mk _ rfl ?_ | refine DivVC.mk (by omega) (by omega) ?_); set_option smartUnfolding false in conv => whnf))))
        refine ⟨show 1 < 4 by omega, ?_⟩
        ((set_option smartUnfolding false in conv => whnf) <;> (repeat (first | exact True.intro | ((first | refine ⟨rfl, ?_⟩ | refine ar (by omega) (by omega) ?_ | refine ar8 (by omega) (by omega) ?_ | refine ix (by omega) ?_ | refine IdxVC.mk 0 rfl (by omega) ?_ | refine BytesVC.mk _ rfl ?_ | refine DivVC.mk (by omega) (by omega) ?_); set_option smartUnfolding false in conv => whnf))))
        refine .mk (flEnc f0) hld ?_
        ((set_option smartUnfolding false in conv => whnf) <;> (repeat (first | exact True.intro | ((first | refine ⟨rfl, ?_⟩ | refine ar (by omega) (by omega) ?_ | refine ar8 (by omega) (by omega) ?_ | refine ix (by omega) ?_ | refine IdxVC.mk 0 rfl (by omega) ?_ | refine BytesVC.mk _ rfl ?_ | refine DivVC.mk (by omega) (by omega) ?_); set_option smartUnfolding false in conv => whnf))))
        refine call_con (N := []) (hpk _) ?_
        ((set_option smartUnfolding false in conv => whnf) <;> (repeat (first | exact True.intro | ((first | refine ⟨rfl, ?_⟩ | refine ar (by omega) (by omega) ?_ | refine ar8 (by omega) (by omega) ?_ | refine ix (by omega) ?_ | refine IdxVC.mk 0 rfl (by omega) ?_ | refine BytesVC.mk _ rfl ?_ | refine DivVC.mk (by omega) (by omega) ?_); set_option smartUnfolding false in conv => whnf))))
        rintro x P2 H' - ⟨rfl, rfl, rfl⟩
        ((set_option smartUnfolding false in conv => whnf) <;> (repeat (first | exact True.intro | ((first | refine ⟨rfl, ?_⟩ | refine ar (by omega) (by omega) ?_ | refine ar8 (by omega) (by omega) ?_ | refine ix (by omega) ?_ | refine IdxVC.mk 0 rfl (by omega) ?_ | refine BytesVC.mk _ rfl ?_ | refine DivVC.mk (by omega) (by omega) ?_); set_option smartUnfolding false in conv => whnf))))
        refine And.intro ?_ ?_
        · ((set_option smartUnfolding false in conv => whnf) <;> (repeat (first | exact True.intro | ((first | refine ⟨rfl, ?_⟩ | refine ar (by omega) (by omega) ?_ | refine ar8 (by omega) (by omega) ?_ | refine ix (by omega) ?_ | refine IdxVC.mk 0 rfl (by omega) ?_ | refine BytesVC.mk _ rfl ?_ | refine DivVC.mk (by omega) (by omega) ?_); set_option smartUnfolding false in conv => whnf))))
          refine .mk (flEnc f0) hld ?_
          ((set_option smartUnfolding false in conv => whnf) <;> (repeat (first | exact True.intro | ((first | refine ⟨rfl, ?_⟩ | refine ar (by omega) (by omega) ?_ | refine ar8 (by omega) (by omega) ?_ | refine ix (by omega) ?_ | refine IdxVC.mk 0 rfl (by omega) ?_ | refine BytesVC.mk _ rfl ?_ | refine DivVC.mk (by omega) (by omega) ?_); set_option smartUnfolding false in conv => whnf))))
        ((set_option smartUnfolding false in conv => whnf) <;> (repeat (first | exact True.intro | ((first | refine ⟨rfl, ?_⟩ | refine ar (by omega) (by omega) ?_ | refine ar8 (by omega) (by omega) ?_ | refine ix (by omega) ?_ | refine IdxVC.mk 0 rfl (by omega) ?_ | refine BytesVC.mk _ rfl ?_ | refine DivVC.mk (by omega) (by omega) ?_); set_option smartUnfolding false in conv => whnf))))
        refine call_con (N := []) (Arm_con _ D.up (1 + (s : Int)) (by omega) (by omega) f0.loss hlo hkl f0.ka f0.kc) ?_
        ((set_option smartUnfolding false in conv => whnf) <;> (repeat (first | exact True.intro | ((first | refine ⟨rfl, ?_⟩ | refine ar (by omega) (by omega) ?_ | refine ar8 (by omega) (by omega) ?_ | refine ix (by omega) ?_ | refine IdxVC.mk 0 rfl (by omega) ?_ | refine BytesVC.mk _ rfl ?_ | refine DivVC.mk (by omega) (by omega) ?_); set_option smartUnfolding false in conv => whnf))))
        rw [harm.1]
        rintro x P3 H' - ⟨rfl, rfl, rfl⟩
        have hlx := harm.2
        have hpx : (({ D.up with armed := 1 + (s : Int), loss := f0.loss } : Dev)).pend = [] := u2
        have hrx : Le.Rest ({ D.up with armed := 1 + (s : Int), loss := f0.loss } : Dev) n p L := ⟨hru.good, hru.pages⟩
        have hax : (({ D.up with armed := 1 + (s : Int), loss := f0.loss } : Dev)).armed = 0 ∨ (k < F.length ∧ k < 12) := .inr ⟨hl, by omega⟩
        obtain ⟨Dx, hDx⟩ : ∃ Dx, Dx = ({ D.up with armed := 1 + (s : Int), loss := f0.loss } : Dev) := ⟨_, rfl⟩
        rw [← hDx] at hlx hpx hrx hax
        try rw [← hDx]
        ((set_option smartUnfolding false in conv => whnf) <;> (repeat (first | exact True.intro | ((first | refine ⟨rfl, ?_⟩ | refine ar (by omega) (by omega) ?_ | refine ar8 (by omega) (by omega) ?_ | refine ix (by omega) ?_ | refine IdxVC.mk 0 rfl (by omega) ?_ | refine BytesVC.mk _ rfl ?_ | refine DivVC.mk (by omega) (by omega) ?_); set_option smartUnfolding false in conv => whnf))))
        rcases hrx.open hlx hpx hro (by omega) (by omega) with ⟨b, D2, hio, hrm, -⟩ | ⟨D2, hio, hfe, hre, har⟩
        · refine call_con (N := [21]) (Open_con _ Dx D2 p b (by rw [hpx]; simp) hio) ?_
          ((set_option smartUnfolding false in conv => whnf) <;> (repeat (first | exact True.intro | ((first | refine ⟨rfl, ?_⟩ | refine ar (by omega) (by omega) ?_ | refine ar8 (by omega) (by omega) ?_ | refine ix (by omega) ?_ | refine IdxVC.mk 0 rfl (by omega) ?_ | refine BytesVC.mk _ rfl ?_ | refine DivVC.mk (by omega) (by omega) ?_); set_option smartUnfolding false in conv => whnf))))
          rintro x P3 H' - ⟨rfl, rfl, rfl⟩
          ((set_option smartUnfolding false in conv => whnf) <;> (repeat (first | exact True.intro | ((first | refine ⟨rfl, ?_⟩ | refine ar (by omega) (by omega) ?_ | refine ar8 (by omega) (by omega) ?_ | refine ix (by omega) ?_ | refine IdxVC.mk 0 rfl (by omega) ?_ | refine BytesVC.mk _ rfl ?_ | refine DivVC.mk (by omega) (by omega) ?_); set_option smartUnfolding false in conv => whnf))))
          refine call_con (N := []) (Arm0_con _ D2 0 (by omega) (by omega)) ?_
          ((set_option smartUnfolding false in conv => whnf) <;> (repeat (first | exact True.intro | ((first | refine ⟨rfl, ?_⟩ | refine ar (by omega) (by omega) ?_ | refine ar8 (by omega) (by omega) ?_ | refine ix (by omega) ?_ | refine IdxVC.mk 0 rfl (by omega) ?_ | refine BytesVC.mk _ rfl ?_ | refine DivVC.mk (by omega) (by omega) ?_); set_option smartUnfolding false in conv => whnf))))
          have hrm3 : Rm (D2.arm 0 loss0).1 n p L := by rw [(hrm.live.armd 0 loss0 (by omega) (by omega) ⟨by simp [loss0], by simp [loss0], by simp [loss0]⟩).1]; exact hrm.armd 0 loss0 (by omega) (by omega) ⟨by simp [loss0], by simp [loss0], by simp [loss0]⟩
          have h00 : (D2.arm 0 loss0).1.armed = 0 := by rw [(hrm.live.armd 0 loss0 (by omega) (by omega) ⟨by simp [loss0], by simp [loss0], by simp [loss0]⟩).1]
          obtain ⟨D3, hD3⟩ : ∃ D3, D3 = (D2.arm 0 loss0).1 := ⟨_, rfl⟩
          rw [← hD3] at hrm3 h00
          rw [← hD3]
          rintro x P4 H' - ⟨rfl, rfl, rfl⟩
          ((set_option smartUnfolding false in conv => whnf) <;> (repeat (first | exact True.intro | ((first | refine ⟨rfl, ?_⟩ | refine ar (by omega) (by omega) ?_ | refine ar8 (by omega) (by omega) ?_ | refine ix (by omega) ?_ | refine IdxVC.mk 0 rfl (by omega) ?_ | refine BytesVC.mk _ rfl ?_ | refine DivVC.mk (by omega) (by omega) ?_); set_option smartUnfolding false in conv => whnf))))
          refine ⟨[rmC 302 300 57 p more 303 pc, lgC 57 300 p (.raw .nilIface), dC 300 D3, eT], ?_⟩
          ((set_option smartUnfolding false in conv => whnf) <;> (repeat (first | exact True.intro | ((first | refine ⟨rfl, ?_⟩ | refine ar (by omega) (by omega) ?_ | refine ar8 (by omega) (by omega) ?_ | refine ix (by omega) ?_ | refine IdxVC.mk 0 rfl (by omega) ?_ | refine BytesVC.mk _ rfl ?_ | refine DivVC.mk (by omega) (by omega) ?_); set_option smartUnfolding false in conv => whnf))))
          exact ⟨D3, hrm3, h00, rfl, rfl⟩
        · refine call_con (N := [40]) (OpenFall_con _ Dx D2 80 (by rw [hpx]; simp) hio) ?_
          ((set_option smartUnfolding false in conv => whnf) <;> (repeat (first | exact True.intro | ((first | refine ⟨rfl, ?_⟩ | refine ar (by omega) (by omega) ?_ | refine ar8 (by omega) (by omega) ?_ | refine ix (by omega) ?_ | refine IdxVC.mk 0 rfl (by omega) ?_ | refine BytesVC.mk _ rfl ?_ | refine DivVC.mk (by omega) (by omega) ?_); set_option smartUnfolding false in conv => whnf))))
          rintro x P3 H' - ⟨rfl, rfl, rfl⟩
          ((set_option smartUnfolding false in conv => whnf) <;> (repeat (first | exact True.intro | ((first | refine ⟨rfl, ?_⟩ | refine ar (by omega) (by omega) ?_ | refine ar8 (by omega) (by omega) ?_ | refine ix (by omega) ?_ | refine IdxVC.mk 0 rfl (by omega) ?_ | refine BytesVC.mk _ rfl ?_ | refine DivVC.mk (by omega) (by omega) ?_); set_option smartUnfolding false in conv => whnf))))
          refine call_con (N := []) (code_con _ sOpen 0 80) ?_
          ((set_option smartUnfolding false in conv => whnf) <;> (repeat (first | exact True.intro | ((first | refine ⟨rfl, ?_⟩ | refine ar (by omega) (by omega) ?_ | refine ar8 (by omega) (by omega) ?_ | refine ix (by omega) ?_ | refine IdxVC.mk 0 rfl (by omega) ?_ | refine BytesVC.mk _ rfl ?_ | refine DivVC.mk (by omega) (by omega) ?_); set_option smartUnfolding false in conv => whnf))))
          rintro x P4 H' - ⟨rfl, rfl, rfl⟩
          ((set_option smartUnfolding false in conv => whnf) <;> (repeat (first | exact True.intro | ((first | refine ⟨rfl, ?_⟩ | refine ar (by omega) (by omega) ?_ | refine ar8 (by omega) (by omega) ?_ | refine ix (by omega) ?_ | refine IdxVC.mk 0 rfl (by omega) ?_ | refine BytesVC.mk _ rfl ?_ | refine DivVC.mk (by omega) (by omega) ?_); set_option smartUnfolding false in conv => whnf))))
          have hdc := Down_con P4 D2
          rw [hfe.down] at hdc
          refine call_con (N := []) hdc ?_
          ((set_option smartUnfolding false in conv => whnf) <;> (repeat (first | exact True.intro | ((first | refine ⟨rfl, ?_⟩ | refine ar (by omega) (by omega) ?_ | refine ar8 (by omega) (by omega) ?_ | refine ix (by omega) ?_ | refine IdxVC.mk 0 rfl (by omega) ?_ | refine BytesVC.mk _ rfl ?_ | refine DivVC.mk (by omega) (by omega) ?_); set_option smartUnfolding false in conv => whnf))))
          rintro x P5 H' - ⟨rfl, rfl, rfl⟩
          ((set_option smartUnfolding false in conv => whnf) <;> (repeat (first | exact True.intro | ((first | refine ⟨rfl, ?_⟩ | refine ar (by omega) (by omega) ?_ | refine ar8 (by omega) (by omega) ?_ | refine ix (by omega) ?_ | refine IdxVC.mk 0 rfl (by omega) ?_ | refine BytesVC.mk _ rfl ?_ | refine DivVC.mk (by omega) (by omega) ?_); set_option smartUnfolding false in conv => whnf))))
          have hnext : k < F.length ∧ k < 12 := by rcases hax with h | h; exact absurd h (by omega); exact h
          refine ⟨⟨(k + 1, D2), ⟨⟨by show k + 1 ≤ F.length; omega, by show k + 1 ≤ 12; omega⟩, ⟨hfe, hre⟩⟩⟩, show 13 - (k + 1) < 13 - k by omega, ?_⟩
          ((set_option smartUnfolding false in conv => whnf) <;> (repeat (first | exact True.intro | ((first | refine ⟨rfl, ?_⟩ | refine ar (by omega) (by omega) ?_ | refine ar8 (by omega) (by omega) ?_ | refine ix (by omega) ?_ | refine IdxVC.mk 0 rfl (by omega) ?_ | refine BytesVC.mk _ rfl ?_ | refine DivVC.mk (by omega) (by omega) ?_); set_option smartUnfolding false in conv => whnf))))
      · ((set_option smartUnfolding false in conv => whnf) <;> (repeat (first | exact True.intro | ((first | refine ⟨rfl, ?_⟩ | refine ar (by omega) (by omega) ?_ | refine ar8 (by omega) (by omega) ?_ | refine ix (by omega) ?_ | refine IdxVC.mk 0 rfl (by omega) ?_ | refine BytesVC.mk _ rfl ?_ | refine DivVC.mk (by omega) (by omega) ?_); set_option smartUnfolding false in conv => whnf))))
        have hlx := u1
        have hpx := u2
        have hrx := hru
        have hax : D.up.armed = 0 ∨ (k < F.length ∧ k < 12) := .inl u4
        obtain ⟨Dx, hDx⟩ : ∃ Dx, Dx = D.up := ⟨_, rfl⟩
        rw [← hDx] at hlx hpx hrx hax
        rw [← hDx]
        ((set_option smartUnfolding false in conv => whnf) <;> (repeat (first | exact True.intro | ((first | refine ⟨rfl, ?_⟩ | refine ar (by omega) (by omega) ?_ | refine ar8 (by omega) (by omega) ?_ | refine ix (by omega) ?_ | refine IdxVC.mk 0 rfl (by omega) ?_ | refine BytesVC.mk _ rfl ?_ | refine DivVC.mk (by omega) (by omega) ?_); set_option smartUnfolding false in conv => whnf))))
        rcases hrx.open hlx hpx hro (by omega) (by omega) with ⟨b, D2, hio, hrm, -⟩ | ⟨D2, hio, hfe, hre, har⟩
        · refine call_con (N := [21]) (Open_con _ Dx D2 p b (by rw [hpx]; simp) hio) ?_
          ((set_option smartUnfolding false in conv => whnf) <;> (repeat (first | exact True.intro | ((first | refine ⟨rfl, ?_⟩ | refine ar (by omega) (by omega) ?_ | refine ar8 (by omega) (by omega) ?_ | refine ix (by omega) ?_ | refine IdxVC.mk 0 rfl (by omega) ?_ | refine BytesVC.mk _ rfl ?_ | refine DivVC.mk (by omega) (by omega) ?_); set_option smartUnfolding false in conv => whnf))))
          rintro x P3 H' - ⟨rfl, rfl, rfl⟩
          ((set_option smartUnfolding false in conv => whnf) <;> (repeat (first | exact True.intro | ((first | refine ⟨rfl, ?_⟩ | refine ar (by omega) (by omega) ?_ | refine ar8 (by omega) (by omega) ?_ | refine ix (by omega) ?_ | refine IdxVC.mk 0 rfl (by omega) ?_ | refine BytesVC.mk _ rfl ?_ | refine DivVC.mk (by omega) (by omega) ?_); set_option smartUnfolding false in conv => whnf))))
          refine call_con (N := []) (Arm0_con _ D2 0 (by omega) (by omega)) ?_
          ((set_option smartUnfolding false in conv => whnf) <;> (repeat (first | exact True.intro | ((first | refine ⟨rfl, ?_⟩ | refine ar (by omega) (by omega) ?_ | refine ar8 (by omega) (by omega) ?_ | refine ix (by omega) ?_ | refine IdxVC.mk 0 rfl (by omega) ?_ | refine BytesVC.mk _ rfl ?_ | refine DivVC.mk (by omega) (by omega) ?_); set_option smartUnfolding false in conv => whnf))))
          have hrm3 : Rm (D2.arm 0 loss0).1 n p L := by rw [(hrm.live.armd 0 loss0 (by omega) (by omega) ⟨by simp [loss0], by simp [loss0], by simp [loss0]⟩).1]; exact hrm.armd 0 loss0 (by omega) (by omega) ⟨by simp [loss0], by simp [loss0], by simp [loss0]⟩
          have h00 : (D2.arm 0 loss0).1.armed = 0 := by rw [(hrm.live.armd 0 loss0 (by omega) (by omega) ⟨by simp [loss0], by simp [loss0], by simp [loss0]⟩).1]
          obtain ⟨D3, hD3⟩ : ∃ D3, D3 = (D2.arm 0 loss0).1 := ⟨_, rfl⟩
          rw [← hD3] at hrm3 h00
          rw [← hD3]
          rintro x P4 H' - ⟨rfl, rfl, rfl⟩
          ((set_option smartUnfolding false in conv => whnf) <;> (repeat (first | exact True.intro | ((first | refine ⟨rfl, ?_⟩ | refine ar (by omega) (by omega) ?_ | refine ar8 (by omega) (by omega) ?_ | refine ix (by omega) ?_ | refine IdxVC.mk 0 rfl (by omega) ?_ | refine BytesVC.mk _ rfl ?_ | refine DivVC.mk (by omega) (by omega) ?_); set_option smartUnfolding false in conv => whnf))))
          refine ⟨[rmC 302 300 57 p more 303 pc, lgC 57 300 p (.raw .nilIface), dC 300 D3, eT], ?_⟩
          ((set_option smartUnfolding false in conv => whnf) <;> (repeat (first | exact True.intro | ((first | refine ⟨rfl, ?_⟩ | refine ar (by omega) (by omega) ?_ | refine ar8 (by omega) (by omega) ?_ | refine ix (by omega) ?_ | refine IdxVC.mk 0 rfl (by omega) ?_ | refine BytesVC.mk _ rfl ?_ | refine DivVC.mk (by omega) (by omega) ?_); set_option smartUnfolding false in conv => whnf))))
          exact ⟨D3, hrm3, h00, rfl, rfl⟩
        · refine call_con (N := [40]) (OpenFall_con _ Dx D2 80 (by rw [hpx]; simp) hio) ?_
          ((set_option smartUnfolding false in conv => whnf) <;> (repeat (first | exact True.intro | ((first | refine ⟨rfl, ?_⟩ | refine ar (by omega) (by omega) ?_ | refine ar8 (by omega) (by omega) ?_ | refine ix (by omega) ?_ | refine IdxVC.mk 0 rfl (by omega) ?_ | refine BytesVC.mk _ rfl ?_ | refine DivVC.mk (by omega) (by omega) ?_); set_option smartUnfolding false in conv => whnf))))
          rintro x P3 H' - ⟨rfl, rfl, rfl⟩
          ((set_option smartUnfolding false in conv => whnf) <;> (repeat (first | exact True.intro | ((first | refine ⟨rfl, ?_⟩ | refine ar (by omega) (by omega) ?_ | refine ar8 (by omega) (by omega) ?_ | refine ix (by omega) ?_ | refine IdxVC.mk 0 rfl (by omega) ?_ | refine BytesVC.mk _ rfl ?_ | refine DivVC.mk (by omega) (by omega) ?_); set_option smartUnfolding false in conv => whnf))))
          refine call_con (N := []) (code_con _ sOpen 0 80) ?_
          ((set_option smartUnfolding false in conv => whnf) <;> (repeat (first | exact True.intro | ((first | refine ⟨rfl, ?_⟩ | refine ar (by omega) (by omega) ?_ | refine ar8 (by omega) (by omega) ?_ | refine ix (by omega) ?_ | refine IdxVC.mk 0 rfl (by omega) ?_ | refine BytesVC.mk _ rfl ?_ | refine DivVC.mk (by omega) (by omega) ?_); set_option smartUnfolding false in conv => whnf))))
          rintro x P4 H' - ⟨rfl, rfl, rfl⟩
          ((set_option smartUnfolding false in conv => whnf) <;> (repeat (first | exact True.intro | ((first | refine ⟨rfl, ?_⟩ | refine ar (by omega) (by omega) ?_ | refine ar8 (by omega) (by omega) ?_ | refine ix (by omega) ?_ | refine IdxVC.mk 0 rfl (by omega) ?_ | refine BytesVC.mk _ rfl ?_ | refine DivVC.mk (by omega) (by omega) ?_); set_option smartUnfolding false in conv => whnf))))
          have hdc := Down_con P4 D2
          rw [hfe.down] at hdc
          refine call_con (N := []) hdc ?_
          ((set_option smartUnfolding false in conv => whnf) <;> (repeat (first | exact True.intro | ((first | refine ⟨rfl, ?_⟩ | refine ar (by omega) (by omega) ?_ | refine ar8 (by omega) (by omega) ?_ | refine ix (by omega) ?_ | refine IdxVC.mk 0 rfl (by omega) ?_ | refine BytesVC.mk _ rfl ?_ | refine DivVC.mk (by omega) (by omega) ?_); set_option smartUnfolding false in conv => whnf))))
          rintro x P5 H' - ⟨rfl, rfl, rfl⟩
          ((set_option smartUnfolding false in conv => whnf) <;> (repeat (first | exact True.intro | ((first | refine ⟨rfl, ?_⟩ | refine ar (by omega) (by omega) ?_ | refine ar8 (by omega) (by omega) ?_ | refine ix (by omega) ?_ | refine IdxVC.mk 0 rfl (by omega) ?_ | refine BytesVC.mk _ rfl ?_ | refine DivVC.mk (by omega) (by omega) ?_); set_option smartUnfolding false in conv => whnf))))
          have hnext : k < F.length ∧ k < 12 := by rcases hax with h | h; exact absurd h (by omega); exact h
          refine ⟨⟨(k + 1, D2), ⟨⟨by show k + 1 ≤ F.length; omega, by show k + 1 ≤ 12; omega⟩, ⟨hfe, hre⟩⟩⟩, show 13 - (k + 1) < 13 - k by omega, ?_⟩
          ((set_option smartUnfolding false in conv => whnf) <;> (repeat (first | exact True.intro | ((first | refine ⟨rfl, ?_⟩ | refine ar (by omega) (by omega) ?_ | refine ar8 (by omega) (by omega) ?_ | refine ix (by omega) ?_ | refine IdxVC.mk 0 rfl (by omega) ?_ | refine BytesVC.mk _ rfl ?_ | refine DivVC.mk (by omega) (by omega) ?_); set_option smartUnfolding false in conv => whnf))))
    · ((set_option smartUnfolding false in conv => whnf) <;> (repeat (first | exact True.intro | ((first | refine ⟨rfl, ?_⟩ | refine ar (by omega) (by omega) ?_ | refine ar8 (by omega) (by omega) ?_ | refine ix (by omega) ?_ | refine IdxVC.mk 0 rfl (by omega) ?_ | refine BytesVC.mk _ rfl ?_ | refine DivVC.mk (by omega) (by omega) ?_); set_option smartUnfolding false in conv => whnf))))
      have hlx := u1
      have hpx := u2
      have hrx := hru
      have hax : D.up.armed = 0 ∨ (k < F.length ∧ k < 12) := .inl u4
      obtain ⟨Dx, hDx⟩ : ∃ Dx, Dx = D.up := ⟨_, rfl⟩
      rw [← hDx] at hlx hpx hrx hax
      rw [← hDx]
      ((set_option smartUnfolding false in conv => whnf) <;> (repeat (first | exact True.intro | ((first | refine ⟨rfl, ?_⟩ | refine ar (by omega) (by omega) ?_ | refine ar8 (by omega) (by omega) ?_ | refine ix (by omega) ?_ | refine IdxVC.mk 0 rfl (by omega) ?_ | refine BytesVC.mk _ rfl ?_ | refine DivVC.mk (by omega) (by omega) ?_); set_option smartUnfolding false in conv => whnf))))
      rcases hrx.open hlx hpx hro (by omega) (by omega) with ⟨b, D2, hio, hrm, -⟩ | ⟨D2, hio, hfe, hre, har⟩
      · refine call_con (N := [21]) (Open_con _ Dx D2 p b (by rw [hpx]; simp) hio) ?_
        ((set_option smartUnfolding false in conv => whnf) <;> (repeat (first | exact True.intro | ((first | refine ⟨rfl, ?_⟩ | refine ar (by omega) (by omega) ?_ | refine ar8 (by omega) (by omega) ?_ | refine ix (by omega) ?_ | refine IdxVC.mk 0 rfl (by omega) ?_ | refine BytesVC.mk _ rfl ?_ | refine DivVC.mk (by omega) (by omega) ?_); set_option smartUnfolding false in conv => whnf))))
        rintro x P3 H' - ⟨rfl, rfl, rfl⟩
        ((set_option smartUnfolding false in conv => whnf) <;> (repeat (first | exact True.intro | ((first | refine ⟨rfl, ?_⟩ | refine ar (by omega) (by omega) ?_ | refine ar8 (by omega) (by omega) ?_ | refine ix (by omega) ?_ | refine IdxVC.mk 0 rfl (by omega) ?_ | refine BytesVC.mk _ rfl ?_ | refine DivVC.mk (by omega) (by omega) ?_); set_option smartUnfolding false in conv => whnf))))
        refine call_con (N := []) (Arm0_con _ D2 0 (by omega) (by omega)) ?_
        ((set_option smartUnfolding false in conv => whnf) <;> (repeat (first | exact True.intro | ((first | refine ⟨rfl, ?_⟩ | refine ar (by omega) (by omega) ?_ | refine ar8 (by omega) (by omega) ?_ | refine ix (by omega) ?_ | refine IdxVC.mk 0 rfl (by omega) ?_ | refine BytesVC.mk _ rfl ?_ | refine DivVC.mk (by omega) (by omega) ?_); set_option smartUnfolding false in conv => whnf))))
        have hrm3 : Rm (D2.arm 0 loss0).1 n p L := by rw [(hrm.live.armd 0 loss0 (by omega) (by omega) ⟨by simp [loss0], by simp [loss0], by simp [loss0]⟩).1]; exact hrm.armd 0 loss0 (by omega) (by omega) ⟨by simp [loss0], by simp [loss0], by simp [loss0]⟩
        have h00 : (D2.arm 0 loss0).1.armed = 0 := by rw [(hrm.live.armd 0 loss0 (by omega) (by omega) ⟨by simp [loss0], by simp [loss0], by simp [loss0]⟩).1]
        obtain ⟨D3, hD3⟩ : ∃ D3, D3 = (D2.arm 0 loss0).1 := ⟨_, rfl⟩
        rw [← hD3] at hrm3 h00
        rw [← hD3]
        rintro x P4 H' - ⟨rfl, rfl, rfl⟩
        ((set_option smartUnfolding false in conv => whnf) <;> (repeat (first | exact True.intro | ((first | refine ⟨rfl, ?_⟩ | refine ar (by omega) (by omega) ?_ | refine ar8 (by omega) (by omega) ?_ | refine ix (by omega) ?_ | refine IdxVC.mk 0 rfl (by omega) ?_ | refine BytesVC.mk _ rfl ?_ | refine DivVC.mk (by omega) (by omega) ?_); set_option smartUnfolding false in conv => whnf))))
        refine ⟨[rmC 302 300 57 p more 303 pc, lgC 57 300 p (.raw .nilIface), dC 300 D3, eT], ?_⟩
        ((set_option smartUnfolding false in conv => whnf) <;> (repeat (first | exact True.intro | ((first | refine ⟨rfl, ?_⟩ | refine ar (by omega) (by omega) ?_ | refine ar8 (by omega) (by omega) ?_ | refine ix (by omega) ?_ | refine IdxVC.mk 0 rfl (by omega) ?_ | refine BytesVC.mk _ rfl ?_ | refine DivVC.mk (by omega) (by omega) ?_); set_option smartUnfolding false in conv => whnf))))
        exact ⟨D3, hrm3, h00, rfl, rfl⟩
      · refine call_con (N := [40]) (OpenFall_con _ Dx D2 80 (by rw [hpx]; simp) hio) ?_
        ((set_option smartUnfolding false in conv => whnf) <;> (repeat (first | exact True.intro | ((first | refine ⟨rfl, ?_⟩ | refine ar (by omega) (by omega) ?_ | refine ar8 (by omega) (by omega) ?_ | refine ix (by omega) ?_ | refine IdxVC.mk 0 rfl (by omega) ?_ | refine BytesVC.mk _ rfl ?_ | refine DivVC.mk (by omega) (by omega) ?_); set_option smartUnfolding false in conv => whnf))))
        rintro x P3 H' - ⟨rfl, rfl, rfl⟩
        ((set_option smartUnfolding false in conv => whnf) <;> (repeat (first | exact True.intro | ((first | refine ⟨rfl, ?_⟩ | refine ar (by omega) (by omega) ?_ | refine ar8 (by omega) (by omega) ?_ | refine ix (by omega) ?_ | refine IdxVC.mk 0 rfl (by omega) ?_ | refine BytesVC.mk _ rfl ?_ | refine DivVC.mk (by omega) (by omega) ?_); set_option smartUnfolding false in conv => whnf))))
        refine call_con (N := []) (code_con _ sOpen 0 80) ?_
        ((set_option smartUnfolding false in conv => whnf) <;> (repeat (first | exact True.intro | ((first | refine ⟨rfl, ?_⟩ | refine ar (by omega) (by omega) ?_ | refine ar8 (by omega) (by omega) ?_ | refine ix (by omega) ?_ | refine IdxVC.mk 0 rfl (by omega) ?_ | refine BytesVC.mk _ rfl ?_ | refine DivVC.mk (by omega) (by omega) ?_); set_option smartUnfolding false in conv => whnf))))
        rintro x P4 H' - ⟨rfl, rfl, rfl⟩
        ((set_option smartUnfolding false in conv => whnf) <;> (repeat (first | exact True.intro | ((first | refine ⟨rfl, ?_⟩ | refine ar (by omega) (by omega) ?_ | refine ar8 (by omega) (by omega) ?_ | refine ix (by omega) ?_ | refine IdxVC.mk 0 rfl (by omega) ?_ | refine BytesVC.mk _ rfl ?_ | refine DivVC.mk (by omega) (by omega) ?_); set_option smartUnfolding false in conv => whnf))))
        have hdc := Down_con P4 D2
        rw [hfe.down] at hdc
        refine call_con (N := []) hdc ?_
        ((set_option smartUnfolding false in conv => whnf) <;> (repeat (first | exact True.intro | ((first | refine ⟨rfl, ?_⟩ | refine ar (by omega) (by omega) ?_ | refine ar8 (by omega) (by omega) ?_ | refine ix (by omega) ?_ | refine IdxVC.mk 0 rfl (by omega) ?_ | refine BytesVC.mk _ rfl ?_ | refine DivVC.mk (by omega) (by omega) ?_); set_option smartUnfolding false in conv => whnf))))
        rintro x P5 H' - ⟨rfl, rfl, rfl⟩
        ((set_option smartUnfolding false in conv => whnf) <;> (repeat (first | exact True.intro | ((first | refine ⟨rfl, ?_⟩ | refine ar (by omega) (by omega) ?_ | refine ar8 (by omega) (by omega) ?_ | refine ix (by omega) ?_ | refine IdxVC.mk 0 rfl (by omega) ?_ | refine BytesVC.mk _ rfl ?_ | refine DivVC.mk (by omega) (by omega) ?_); set_option smartUnfolding false in conv => whnf))))
        have hnext : k < F.length ∧ k < 12 := by rcases hax with h | h; exact absurd h (by omega); exact h
        refine ⟨⟨(k + 1, D2), ⟨⟨by show k + 1 ≤ F.length; omega, by show k + 1 ≤ 12; omega⟩, ⟨hfe, hre⟩⟩⟩, show 13 - (k + 1) < 13 - k by omega, ?_⟩
        ((set_option smartUnfolding false in conv => whnf) <;> (repeat (first | exact True.intro | ((first | refine ⟨rfl, ?_⟩ | refine ar (by omega) (by omega) ?_ | refine ar8 (by omega) (by omega) ?_ | refine ix (by omega) ?_ | refine IdxVC.mk 0 rfl (by omega) ?_ | refine BytesVC.mk _ rfl ?_ | refine DivVC.mk (by omega) (by omega) ?_); set_option smartUnfolding false in conv => whnf))))
end Go.Proofs.YtpaebopmppbjbaaGreatDoor
