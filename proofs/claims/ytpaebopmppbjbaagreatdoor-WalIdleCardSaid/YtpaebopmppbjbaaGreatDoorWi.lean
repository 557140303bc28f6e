/- The walk of WalIdle, by the engine. -/
import Derived.Test.YtpaebopmppbjbaaGreatDoorWdM
set_option linter.unusedVariables false
set_option linter.unusedSimpArgs false
namespace Go.Proofs.YtpaebopmppbjbaaGreatDoor
open Go Go.RowKit Go.Le Go.Eng
theorem enteredT_con (P : Hp) (a0 b0 : Int) (ta : Option Addr) (tc : Nat) (c : Cont) (a1 : -9223372036854775808 ≤ a0) (a2 : a0 ≤ 9223372036854775807) (b1 : -9223372036854775808 ≤ b0) (b2 : b0 ≤ 9223372036854775807) (p more : Nat) (hp : (p : Int) = 1 + a0 % 20) (hmo : (more : Int) = b0 % 4) (n : Nat) (hnn : n = 4 * p + 1 + more) :
    Con Tryz.prog [] 5 [.agg [.raw (.int .i64 a0), .raw (.int .i64 b0), .rs ta tc c]] P [] fun x P' H' => ∃ (pc : Nat) (D' : Dev), Rm D' n p (List.replicate p (zrs 1024)) ∧ D'.armed = 0 ∧ x = .tup [.ptr 30 0, .raw (.bool true)] ∧ P' = P ∧
      H' = [rmC 30 31 32 p more 33 pc, rowC 33 pc (List.replicate p (zrs 1024)), lgC 32 31 p (.raw .nilIface), dC 31 D'] := by
  refine (Con.args (entered_con P a0 b0 (.slice ta c.l.length tc) a1 a2 b1 b2 p more hp hmo n hnn) (fun ρ => by simp only [denL, SV.den]) (fun ρ wb _ => by simp only [okL, SV.ok, and_true])).mono ?_
  rintro x P' H' ⟨pc, D', h1, h2, h3, rfl, rfl, rfl⟩
  exact ⟨pc, D', Rm.new h1 h2 h3, h1.armed, rfl, rfl, rfl⟩
theorem playsI_con (P : Hp) (n p more pc : Nat) (L : List (List UInt8)) (hp1 : 1 ≤ p) (hp : p ≤ 20) (hmo : more ≤ 3) (hn : n = 4 * p + 1 + more) (D : Dev) (hD : Rm D n p L) (h0 : D.armed = 0) (ta : Option Addr) (tc : Nat) (T : List Pg0) (hT : ∀ x ∈ T, -9223372036854775808 ≤ x.1 ∧ x.1 ≤ 9223372036854775807) :
    Con Tryz.prog [0, 300, 301, 302] 7 [.ptr 302 0, .agg [.rs ta tc (pagesC T), .raw (.bool false), .raw (.slice none 0 0), .raw (.bool false)]] P [rmC 302 300 301 p more 303 pc, rowC 303 pc L, lgC 301 300 p (.raw .nilIface), dC 300 D] fun x P' H' =>
      ∃ D' L' pc', Rm D' n p L' ∧ D'.armed = 0 ∧ x = .raw (.bool true) ∧ H' = [rmC 302 300 301 p more 303 pc', rowC 303 pc' L', lgC 301 300 p (.raw .nilIface), dC 300 D'] :=
  Con.args (playsQ_con P n p more pc L hp1 hp hmo hn D hD h0 ta tc T hT false none 0 [] false (.inl rfl)) (fun ρ => by simp only [denL, SV.den]; rfl) (fun ρ wb h => by
    have h2 := rs_nil (ρ := ρ) (wb := wb) (P := P) (fallsC []) rfl
    simp only [okL, SV.ok, and_true, true_and] at h h2 ⊢
    exact ⟨h.1, h.2, h2⟩)
theorem playsN_con (P : Hp) (n p more pc : Nat) (L : List (List UInt8)) (hp1 : 1 ≤ p) (hp : p ≤ 20) (hmo : more ≤ 3) (hn : n = 4 * p + 1 + more) (D : Dev) (hD : Rm D n p L) (h0 : D.armed = 0) :
    Con Tryz.prog [0, 300, 301, 302] 7 [.ptr 302 0, .agg [.raw (.slice none 0 0), .raw (.bool false), .raw (.slice none 0 0), .raw (.bool false)]] P [rmC 302 300 301 p more 303 pc, rowC 303 pc L, lgC 301 300 p (.raw .nilIface), dC 300 D] fun x P' H' =>
      ∃ D' L' pc', Rm D' n p L' ∧ D'.armed = 0 ∧ x = .raw (.bool true) ∧ H' = [rmC 302 300 301 p more 303 pc', rowC 303 pc' L', lgC 301 300 p (.raw .nilIface), dC 300 D'] :=
  Con.args (playsI_con P n p more pc L hp1 hp hmo hn D hD h0 none 0 [] (by simp)) (fun ρ => by simp only [denL, SV.den]; rfl) (fun ρ wb h => by
    have h2 := rs_nil (ρ := ρ) (wb := wb) (P := P) (pagesC []) rfl
    simp only [okL, SV.ok, and_true, true_and] at h h2 ⊢
    exact ⟨h, h2⟩)
theorem wantedN_con (P : Hp) (p more pc : Nat) (L : List (List UInt8)) (hL : L.length = p) (hp1 : 1 ≤ p) (hp : p ≤ 20) :
    Con Tryz.prog [0, 300, 301, 302, 303] 8 [.ptr 302 0, .agg [.raw (.slice none 0 0), .raw (.bool false), .raw (.slice none 0 0), .raw (.bool false)]] P [rmC 302 300 301 p more 303 pc, rowC 303 pc L] fun x P' H' =>
      ∃ zs L' co ca, WOk p L zs L' ∧ x = .tup [.sl 306 2 0 zs.length co, .sl 17 1 0 p ca] ∧ H' = [.row 306 52 co (pwC zs), rowC 17 ca L', rmC 302 300 301 p more 303 pc, rowC 303 pc L] :=
  Con.args (wanted_con P p more pc L hL hp1 hp none 0 [] (by simp) false false none 0 []) (fun ρ => by simp only [denL, SV.den]; rfl) (fun ρ wb h => by
    have h2 := rs_nil (ρ := ρ) (wb := wb) (P := P) (pagesC []) rfl
    have h3 := rs_nil (ρ := ρ) (wb := wb) (P := P) (fallsC []) rfl
    simp only [okL, SV.ok, and_true, true_and] at h h2 h3 ⊢
    exact ⟨h, h2, h3⟩)
set_option maxRecDepth 100000 in
set_option maxHeartbeats 4000000 in
theorem idle_con (P : Hp) (a0 b0 : Int) (ta : Option Addr) (tc : Nat) (TT : List Tn) (hTT : ∀ t ∈ TT, ∀ x ∈ t.T, -9223372036854775808 ≤ x.1 ∧ x.1 ≤ 9223372036854775807) (a1 : -9223372036854775808 ≤ a0) (a2 : a0 ≤ 9223372036854775807) (b1 : -9223372036854775808 ≤ b0) (b2 : b0 ≤ 9223372036854775807)
    (nu : Int) (f : UInt8) (cut at' : Int) (n1 : -9223372036854775808 ≤ nu) (n2 : nu ≤ 9223372036854775807) (c1 : -9223372036854775808 ≤ cut) (c2 : cut ≤ 9223372036854775807) (t1 : -9223372036854775808 ≤ at') (t2 : at' ≤ 9223372036854775807) :
    Con Tryz.prog [] 3 [.agg [.raw (.int .i64 a0), .raw (.int .i64 b0), .rs ta tc (turnsC TT)], .agg [.raw (.int .i64 nu), .raw (.int .u8 (f.toNat : Int)), .raw (.int .i64 cut)], .raw (.int .i64 at')] P [eT] fun x P' H' => x = .raw (.bool true) := by
  obtain ⟨p, hpe⟩ : ∃ p : Nat, (p : Int) = 1 + a0 % 20 := ⟨(1 + a0 % 20).toNat, by have := Int.emod_nonneg a0 (show (20 : Int) ≠ 0 by omega); omega⟩
  obtain ⟨more, hme⟩ : ∃ m : Nat, (m : Int) = b0 % 4 := ⟨(b0 % 4).toNat, by have := Int.emod_nonneg b0 (show (4 : Int) ≠ 0 by omega); omega⟩
  have hp1 : 1 ≤ p := by have := Int.emod_nonneg a0 (show (20 : Int) ≠ 0 by omega); omega
  have hp : p ≤ 20 := by have := Int.emod_lt_of_pos a0 (show (0 : Int) < 20 by omega); omega
  have hmo : more ≤ 3 := by have := Int.emod_lt_of_pos b0 (show (0 : Int) < 4 by omega); omega
  obtain ⟨n, hn⟩ : ∃ n, n = 4 * p + 1 + more := ⟨_, rfl⟩
  have hTl : (TT.map tnEnc).length = TT.length := List.length_map ..
  refine con_of_fun T_good (by kernel_rfl) Tryz.call3 Tryz.func3 (by kernel_rfl) (by show 3 ≤ _; decide +kernel) ?_
  ((set_option smartUnfolding false in conv => whnf) <;> (repeat (first | exact True.intro | ((first | refine ⟨rfl, ?_⟩ | refine ar (by omega) (by omega) ?_ | refine ar8 (by omega) (by omega) ?_ | refine ix (by omega) ?_ | refine IdxVC.mk 0 rfl (by omega) ?_ | refine BytesVC.mk _ rfl ?_ | refine DivVC.mk (by omega) (by omega) ?_); set_option smartUnfolding false in conv => whnf))))
  refine call_con (N := [30, 31, 32, 33]) (enteredT_con P a0 b0 ta tc (turnsC TT) a1 a2 b1 b2 p more hpe hme n hn) ?_
  ((set_option smartUnfolding false in conv => whnf) <;> (repeat (first | exact True.intro | ((first | refine ⟨rfl, ?_⟩ | refine ar (by omega) (by omega) ?_ | refine ar8 (by omega) (by omega) ?_ | refine ix (by omega) ?_ | refine IdxVC.mk 0 rfl (by omega) ?_ | refine BytesVC.mk _ rfl ?_ | refine DivVC.mk (by omega) (by omega) ?_); set_option smartUnfolding false in conv => whnf))))
  rintro x P1 H' - ⟨pc, D0, hD0, h00, rfl, rfl, rfl⟩
  ((set_option smartUnfolding false in conv => whnf) <;> (repeat (first | exact True.intro | ((first | refine ⟨rfl, ?_⟩ | refine ar (by omega) (by omega) ?_ | refine ar8 (by omega) (by omega) ?_ | refine ix (by omega) ?_ | refine IdxVC.mk 0 rfl (by omega) ?_ | refine BytesVC.mk _ rfl ?_ | refine DivVC.mk (by omega) (by omega) ?_); set_option smartUnfolding false in conv => whnf))))
  refine call_con (N := []) (fixed_con _) ?_
  ((set_option smartUnfolding false in conv => whnf) <;> (repeat (first | exact True.intro | ((first | refine ⟨rfl, ?_⟩ | refine ar (by omega) (by omega) ?_ | refine ar8 (by omega) (by omega) ?_ | refine ix (by omega) ?_ | refine IdxVC.mk 0 rfl (by omega) ?_ | refine BytesVC.mk _ rfl ?_ | refine DivVC.mk (by omega) (by omega) ?_); set_option smartUnfolding false in conv => whnf))))
  rintro x P2 H' - ⟨rfl, rfl, rfl⟩
  ((set_option smartUnfolding false in conv => whnf) <;> (repeat (first | exact True.intro | ((first | refine ⟨rfl, ?_⟩ | refine ar (by omega) (by omega) ?_ | refine ar8 (by omega) (by omega) ?_ | refine ix (by omega) ?_ | refine IdxVC.mk 0 rfl (by omega) ?_ | refine BytesVC.mk _ rfl ?_ | refine DivVC.mk (by omega) (by omega) ?_); set_option smartUnfolding false in conv => whnf))))
  refine bxd (fun hT => ?_) (fun hT => ?_)
  · have hT : 0 < TT.length := by have h : (0 : Int) < ((TT.map tnEnc).length : Int) := hT; omega
    obtain ⟨t0, ht⟩ : ∃ t0, TT[0]? = some t0 := ⟨TT[0], List.getElem?_eq_getElem hT⟩
    have ht0 : t0 ∈ TT := List.mem_of_getElem? ht
    have hld : (TT.map tnEnc)[0]? = some (tnEnc t0) := by rw [List.getElem?_map, ht]; rfl
    ((set_option smartUnfolding false in conv => whnf) <;> (repeat (first | exact True.intro | ((first | refine ⟨rfl, ?_⟩ | refine ar (by omega) (by omega) ?_ | refine ar8 (by omega) (by omega) ?_ | refine ix (by omega) ?_ | refine IdxVC.mk 0 rfl (by omega) ?_ | refine BytesVC.mk _ rfl ?_ | refine DivVC.mk (by omega) (by omega) ?_); set_option smartUnfolding false in conv => whnf))))
    refine ⟨show 0 < 4 by omega, ?_⟩
    refine .mk 0 rfl (by show 0 < (TT.map tnEnc).length; omega) ?_
    ((set_option smartUnfolding false in conv => whnf) <;> (repeat (first | exact True.intro | ((first | refine ⟨rfl, ?_⟩ | refine ar (by omega) (by omega) ?_ | refine ar8 (by omega) (by omega) ?_ | refine ix (by omega) ?_ | refine IdxVC.mk 0 rfl (by omega) ?_ | refine BytesVC.mk _ rfl ?_ | refine DivVC.mk (by omega) (by omega) ?_); set_option smartUnfolding false in conv => whnf))))
    refine .mk (tnEnc t0) hld ?_
    ((set_option smartUnfolding false in conv => whnf) <;> (repeat (first | exact True.intro | ((first | refine ⟨rfl, ?_⟩ | refine ar (by omega) (by omega) ?_ | refine ar8 (by omega) (by omega) ?_ | refine ix (by omega) ?_ | refine IdxVC.mk 0 rfl (by omega) ?_ | refine BytesVC.mk _ rfl ?_ | refine DivVC.mk (by omega) (by omega) ?_); set_option smartUnfolding false in conv => whnf))))
    refine call_con (N := [303]) (playsI_con _ n p more pc _ hp1 hp hmo hn D0 hD0 h00 t0.pa t0.pc t0.T (hTT t0 ht0)) ?_
    ((set_option smartUnfolding false in conv => whnf) <;> (repeat (first | exact True.intro | ((first | refine ⟨rfl, ?_⟩ | refine ar (by omega) (by omega) ?_ | refine ar8 (by omega) (by omega) ?_ | refine ix (by omega) ?_ | refine IdxVC.mk 0 rfl (by omega) ?_ | refine BytesVC.mk _ rfl ?_ | refine DivVC.mk (by omega) (by omega) ?_); set_option smartUnfolding false in conv => whnf))))
    rintro x P3 H' - ⟨D, L, pc1, hD, h0, rfl, rfl⟩
    ((set_option smartUnfolding false in conv => whnf) <;> (repeat (first | exact True.intro | ((first | refine ⟨rfl, ?_⟩ | refine ar (by omega) (by omega) ?_ | refine ar8 (by omega) (by omega) ?_ | refine ix (by omega) ?_ | refine IdxVC.mk 0 rfl (by omega) ?_ | refine BytesVC.mk _ rfl ?_ | refine DivVC.mk (by omega) (by omega) ?_); set_option smartUnfolding false in conv => whnf))))
    refine call_con (N := [306, 17]) (wanted_con _ p more pc1 L hD.pages.len hp1 hp t0.pa t0.pc t0.T (hTT t0 ht0) t0.cr t0.an t0.fa t0.fc t0.F) ?_
    ((set_option smartUnfolding false in conv => whnf) <;> (repeat (first | exact True.intro | ((first | refine ⟨rfl, ?_⟩ | refine ar (by omega) (by omega) ?_ | refine ar8 (by omega) (by omega) ?_ | refine ix (by omega) ?_ | refine IdxVC.mk 0 rfl (by omega) ?_ | refine BytesVC.mk _ rfl ?_ | refine DivVC.mk (by omega) (by omega) ?_); set_option smartUnfolding false in conv => whnf))))
    rintro x P4 H' - ⟨zs, L', co, ca, hw, rfl, rfl⟩
    ((set_option smartUnfolding false in conv => whnf) <;> (repeat (first | exact True.intro | ((first | refine ⟨rfl, ?_⟩ | refine ar (by omega) (by omega) ?_ | refine ar8 (by omega) (by omega) ?_ | refine ix (by omega) ?_ | refine IdxVC.mk 0 rfl (by omega) ?_ | refine BytesVC.mk _ rfl ?_ | refine DivVC.mk (by omega) (by omega) ?_); set_option smartUnfolding false in conv => whnf))))
    refine call_con (N := []) (Calls_con _ D) ?_
    ((set_option smartUnfolding false in conv => whnf) <;> (repeat (first | exact True.intro | ((first | refine ⟨rfl, ?_⟩ | refine ar (by omega) (by omega) ?_ | refine ar8 (by omega) (by omega) ?_ | refine ix (by omega) ?_ | refine IdxVC.mk 0 rfl (by omega) ?_ | refine BytesVC.mk _ rfl ?_ | refine DivVC.mk (by omega) (by omega) ?_); set_option smartUnfolding false in conv => whnf))))
    rintro x P5 H' - ⟨rfl, rfl, rfl⟩
    ((set_option smartUnfolding false in conv => whnf) <;> (repeat (first | exact True.intro | ((first | refine ⟨rfl, ?_⟩ | refine ar (by omega) (by omega) ?_ | refine ar8 (by omega) (by omega) ?_ | refine ix (by omega) ?_ | refine IdxVC.mk 0 rfl (by omega) ?_ | refine BytesVC.mk _ rfl ?_ | refine DivVC.mk (by omega) (by omega) ?_); set_option smartUnfolding false in conv => whnf))))
    refine call_con (N := []) (Commit0_con _ p (by omega)) ?_
    ((set_option smartUnfolding false in conv => whnf) <;> (repeat (first | exact True.intro | ((first | refine ⟨rfl, ?_⟩ | refine ar (by omega) (by omega) ?_ | refine ar8 (by omega) (by omega) ?_ | refine ix (by omega) ?_ | refine IdxVC.mk 0 rfl (by omega) ?_ | refine BytesVC.mk _ rfl ?_ | refine DivVC.mk (by omega) (by omega) ?_); set_option smartUnfolding false in conv => whnf))))
    rintro x P6 H' - ⟨rfl, rfl, rfl⟩
    ((set_option smartUnfolding false in conv => whnf) <;> (repeat (first | exact True.intro | ((first | refine ⟨rfl, ?_⟩ | refine ar (by omega) (by omega) ?_ | refine ar8 (by omega) (by omega) ?_ | refine ix (by omega) ?_ | refine IdxVC.mk 0 rfl (by omega) ?_ | refine BytesVC.mk _ rfl ?_ | refine DivVC.mk (by omega) (by omega) ?_); set_option smartUnfolding false in conv => whnf))))
    refine bxd (fun hz => ?_) (fun hz => ?_)
    · ((set_option smartUnfolding false in conv => whnf) <;> (repeat (first | exact True.intro | ((first | refine ⟨rfl, ?_⟩ | refine ar (by omega) (by omega) ?_ | refine ar8 (by omega) (by omega) ?_ | refine ix (by omega) ?_ | refine IdxVC.mk 0 rfl (by omega) ?_ | refine BytesVC.mk _ rfl ?_ | refine DivVC.mk (by omega) (by omega) ?_); set_option smartUnfolding false in conv => whnf))))
      refine call_con (N := []) (Calls_con _ D) ?_
      ((set_option smartUnfolding false in conv => whnf) <;> (repeat (first | exact True.intro | ((first | refine ⟨rfl, ?_⟩ | refine ar (by omega) (by omega) ?_ | refine ar8 (by omega) (by omega) ?_ | refine ix (by omega) ?_ | refine IdxVC.mk 0 rfl (by omega) ?_ | refine BytesVC.mk _ rfl ?_ | refine DivVC.mk (by omega) (by omega) ?_); set_option smartUnfolding false in conv => whnf))))
      rintro x P7 H' - ⟨rfl, rfl, rfl⟩
      ((set_option smartUnfolding false in conv => whnf) <;> (repeat (first | exact True.intro | ((first | refine ⟨rfl, ?_⟩ | refine ar (by omega) (by omega) ?_ | refine ar8 (by omega) (by omega) ?_ | refine ix (by omega) ?_ | refine IdxVC.mk 0 rfl (by omega) ?_ | refine BytesVC.mk _ rfl ?_ | refine DivVC.mk (by omega) (by omega) ?_); set_option smartUnfolding false in conv => whnf))))
      exact congrArg (fun b => SV.raw (Value.bool b)) (decide_eq_true rfl)
    · have hzl : 0 < zs.length := by omega
      have hz20 := hw.len
      obtain ⟨k, hk⟩ : ∃ k : Nat, at' % (zs.length : Int) = k := ⟨(at' % (zs.length : Int)).toNat, by have := Int.emod_nonneg at' (show (zs.length : Int) ≠ 0 by omega); omega⟩
      have hkl : k < zs.length := by have := Int.emod_lt_of_pos at' (show (0 : Int) < zs.length by omega); omega
      have hkj : k < (zs.map toJ).length := by rw [List.length_map]; exact hkl
      have hjk : (zs.map toJ)[0 + k]? = some (toJ zs[k]) := by rw [Nat.zero_add, List.getElem?_map, List.getElem?_eq_getElem hkl]; rfl
      have hpk := pick_con P6 at' (zs.length : Int) (by omega) (by omega) t1 t2
      rw [hk] at hpk
      ((set_option smartUnfolding false in conv => whnf) <;> (repeat (first | exact True.intro | ((first | refine ⟨rfl, ?_⟩ | refine ar (by omega) (by omega) ?_ | refine ar8 (by omega) (by omega) ?_ | refine ix (by omega) ?_ | refine IdxVC.mk 0 rfl (by omega) ?_ | refine BytesVC.mk _ rfl ?_ | refine DivVC.mk (by omega) (by omega) ?_); set_option smartUnfolding false in conv => whnf))))
      refine call_con (N := []) hpk ?_
      ((set_option smartUnfolding false in conv => whnf) <;> (repeat (first | exact True.intro | ((first | refine ⟨rfl, ?_⟩ | refine ar (by omega) (by omega) ?_ | refine ar8 (by omega) (by omega) ?_ | refine ix (by omega) ?_ | refine IdxVC.mk 0 rfl (by omega) ?_ | refine BytesVC.mk _ rfl ?_ | refine DivVC.mk (by omega) (by omega) ?_); set_option smartUnfolding false in conv => whnf))))
      rintro x P7 H' - ⟨rfl, rfl, rfl⟩
      ((set_option smartUnfolding false in conv => whnf) <;> (repeat (first | exact True.intro | ((first | refine ⟨rfl, ?_⟩ | refine ar (by omega) (by omega) ?_ | refine ar8 (by omega) (by omega) ?_ | refine ix (by omega) ?_ | refine IdxVC.mk 0 rfl (by omega) ?_ | refine BytesVC.mk _ rfl ?_ | refine DivVC.mk (by omega) (by omega) ?_); set_option smartUnfolding false in conv => whnf))))
      refine call_con (N := []) (pick_con _ cut 3 (by omega) (by omega) c1 c2) ?_
      ((set_option smartUnfolding false in conv => whnf) <;> (repeat (first | exact True.intro | ((first | refine ⟨rfl, ?_⟩ | refine ar (by omega) (by omega) ?_ | refine ar8 (by omega) (by omega) ?_ | refine ix (by omega) ?_ | refine IdxVC.mk 0 rfl (by omega) ?_ | refine BytesVC.mk _ rfl ?_ | refine DivVC.mk (by omega) (by omega) ?_); set_option smartUnfolding false in conv => whnf))))
      rintro x P8 H' - ⟨rfl, rfl, rfl⟩
      ((set_option smartUnfolding false in conv => whnf) <;> (repeat (first | exact True.intro | ((first | refine ⟨rfl, ?_⟩ | refine ar (by omega) (by omega) ?_ | refine ar8 (by omega) (by omega) ?_ | refine ix (by omega) ?_ | refine IdxVC.mk 0 rfl (by omega) ?_ | refine BytesVC.mk _ rfl ?_ | refine DivVC.mk (by omega) (by omega) ?_); set_option smartUnfolding false in conv => whnf))))
      refine bxd (fun hq => ?_) (fun hq => ?_)
      · ((set_option smartUnfolding false in conv => whnf) <;> (repeat (first | exact True.intro | ((first | refine ⟨rfl, ?_⟩ | refine ar (by omega) (by omega) ?_ | refine ar8 (by omega) (by omega) ?_ | refine ix (by omega) ?_ | refine IdxVC.mk 0 rfl (by omega) ?_ | refine BytesVC.mk _ rfl ?_ | refine DivVC.mk (by omega) (by omega) ?_); set_option smartUnfolding false in conv => whnf))))
        obtain ⟨r, hr⟩ : ∃ r : Nat, nu % 1000 = r := ⟨(nu % 1000).toNat, by have := Int.emod_nonneg nu (show (1000 : Int) ≠ 0 by omega); omega⟩
        have hr1 : r < 1000 := by have := Int.emod_lt_of_pos nu (show (0 : Int) < 1000 by omega); omega
        have hpr : ∀ P, _ := fun P => pick_con P nu 1000 (by omega) (by omega) n1 n2
        rw [hr] at hpr
        refine call_con (N := []) (hpr _) ?_
        ((set_option smartUnfolding false in conv => whnf) <;> (repeat (first | exact True.intro | ((first | refine ⟨rfl, ?_⟩ | refine ar (by omega) (by omega) ?_ | refine ar8 (by omega) (by omega) ?_ | refine ix (by omega) ?_ | refine IdxVC.mk 0 rfl (by omega) ?_ | refine BytesVC.mk _ rfl ?_ | refine DivVC.mk (by omega) (by omega) ?_); set_option smartUnfolding false in conv => whnf))))
        rintro x P9 H' - ⟨rfl, rfl, rfl⟩
        ((set_option smartUnfolding false in conv => whnf) <;> (repeat (first | exact True.intro | ((first | refine ⟨rfl, ?_⟩ | refine ar (by omega) (by omega) ?_ | refine ar8 (by omega) (by omega) ?_ | refine ix (by omega) ?_ | refine IdxVC.mk 0 rfl (by omega) ?_ | refine BytesVC.mk _ rfl ?_ | refine DivVC.mk (by omega) (by omega) ?_); set_option smartUnfolding false in conv => whnf))))
        obtain ⟨y1, hy1⟩ : ∃ y : Pj, y = (-1 - (r : Int), zs[k].2.1, zs[k].2.2, zs[k].1.2) := ⟨_, rfl⟩
        have hy1e : jEnc y1 = wr (jEnc (toJ zs[k])) 0 [.v (.int .i64 (-1 - (r : Int)))] := by rw [hy1]; rfl
        refine .mk (toJ zs[k]) y1 hjk hy1e (by show 0 + 1 ≤ 2; omega) ?_
        ((set_option smartUnfolding false in conv => whnf) <;> (repeat (first | exact True.intro | ((first | refine ⟨rfl, ?_⟩ | refine ar (by omega) (by omega) ?_ | refine ar8 (by omega) (by omega) ?_ | refine ix (by omega) ?_ | refine IdxVC.mk 0 rfl (by omega) ?_ | refine BytesVC.mk _ rfl ?_ | refine DivVC.mk (by omega) (by omega) ?_); set_option smartUnfolding false in conv => whnf))))
        refine bxd (fun hf => ?_) (fun hf => ?_)
        · ((set_option smartUnfolding false in conv => whnf) <;> (repeat (first | exact True.intro | ((first | refine ⟨rfl, ?_⟩ | refine ar (by omega) (by omega) ?_ | refine ar8 (by omega) (by omega) ?_ | refine ix (by omega) ?_ | refine IdxVC.mk 0 rfl (by omega) ?_ | refine BytesVC.mk _ rfl ?_ | refine DivVC.mk (by omega) (by omega) ?_); set_option smartUnfolding false in conv => whnf))))
          refine call_con (N := []) (hpr _) ?_
          ((set_option smartUnfolding false in conv => whnf) <;> (repeat (first | exact True.intro | ((first | refine ⟨rfl, ?_⟩ | refine ar (by omega) (by omega) ?_ | refine ar8 (by omega) (by omega) ?_ | refine ix (by omega) ?_ | refine IdxVC.mk 0 rfl (by omega) ?_ | refine BytesVC.mk _ rfl ?_ | refine DivVC.mk (by omega) (by omega) ?_); set_option smartUnfolding false in conv => whnf))))
          rintro x P10 H' - ⟨rfl, rfl, rfl⟩
          ((set_option smartUnfolding false in conv => whnf) <;> (repeat (first | exact True.intro | ((first | refine ⟨rfl, ?_⟩ | refine ar (by omega) (by omega) ?_ | refine ar8 (by omega) (by omega) ?_ | refine ix (by omega) ?_ | refine IdxVC.mk 0 rfl (by omega) ?_ | refine BytesVC.mk _ rfl ?_ | refine DivVC.mk (by omega) (by omega) ?_); set_option smartUnfolding false in conv => whnf))))
          obtain ⟨y2, hy2⟩ : ∃ y : Pj, y = ((p : Int) + (r : Int), zs[k].2.1, zs[k].2.2, zs[k].1.2) := ⟨_, rfl⟩
          have hy2e : jEnc y2 = wr (jEnc y1) 0 [.v (.int .i64 ((p : Int) + (r : Int)))] := by rw [hy2, hy1]; rfl
          refine .mk y1 y2 (by show (List.set (zs.map toJ) (0 + k) y1)[0 + k]? = _; rw [List.getElem?_set_self (by omega)]; rfl) hy2e (by show 0 + 1 ≤ 2; omega) ?_
          ((set_option smartUnfolding false in conv => whnf) <;> (repeat (first | exact True.intro | ((first | refine ⟨rfl, ?_⟩ | refine ar (by omega) (by omega) ?_ | refine ar8 (by omega) (by omega) ?_ | refine ix (by omega) ?_ | refine IdxVC.mk 0 rfl (by omega) ?_ | refine BytesVC.mk _ rfl ?_ | refine DivVC.mk (by omega) (by omega) ?_); set_option smartUnfolding false in conv => whnf))))
          have hask : askJ p (((zs.map toJ).set (0 + k) y1).set (0 + k) y2) = (k, 4) := by
            rw [Nat.zero_add, List.set_set]
            exact ask_place p zs k hkl hw.nodup hw.fit y2 (.inr (by rw [hy2]; show (p : Int) ≤ (p : Int) + (r : Int); omega))
          have hcb := CommitBad_con P10 p zs.length co (((zs.map toJ).set (0 + k) y1).set (0 + k) y2) (by omega) (by simp) (by omega) hzl (by rw [hask]; show ((4 : Int)) ≠ 0; omega)
          rw [hask] at hcb
          refine call_con (N := [25]) hcb ?_
          ((set_option smartUnfolding false in conv => whnf) <;> (repeat (first | exact True.intro | ((first | refine ⟨rfl, ?_⟩ | refine ar (by omega) (by omega) ?_ | refine ar8 (by omega) (by omega) ?_ | refine ix (by omega) ?_ | refine IdxVC.mk 0 rfl (by omega) ?_ | refine BytesVC.mk _ rfl ?_ | refine DivVC.mk (by omega) (by omega) ?_); set_option smartUnfolding false in conv => whnf))))
          rintro x P20 H' - ⟨rfl, rfl, rfl⟩
          ((set_option smartUnfolding false in conv => whnf) <;> (repeat (first | exact True.intro | ((first | refine ⟨rfl, ?_⟩ | refine ar (by omega) (by omega) ?_ | refine ar8 (by omega) (by omega) ?_ | refine ix (by omega) ?_ | refine IdxVC.mk 0 rfl (by omega) ?_ | refine BytesVC.mk _ rfl ?_ | refine DivVC.mk (by omega) (by omega) ?_); set_option smartUnfolding false in conv => whnf))))
          refine bxd (fun _ => ?_) (fun h => absurd rfl h)
          ((set_option smartUnfolding false in conv => whnf) <;> (repeat (first | exact True.intro | ((first | refine ⟨rfl, ?_⟩ | refine ar (by omega) (by omega) ?_ | refine ar8 (by omega) (by omega) ?_ | refine ix (by omega) ?_ | refine IdxVC.mk 0 rfl (by omega) ?_ | refine BytesVC.mk _ rfl ?_ | refine DivVC.mk (by omega) (by omega) ?_); set_option smartUnfolding false in conv => whnf))))
          refine StrVC.mk true (beq_self_eq_true _) ?_
          ((set_option smartUnfolding false in conv => whnf) <;> (repeat (first | exact True.intro | ((first | refine ⟨rfl, ?_⟩ | refine ar (by omega) (by omega) ?_ | refine ar8 (by omega) (by omega) ?_ | refine ix (by omega) ?_ | refine IdxVC.mk 0 rfl (by omega) ?_ | refine BytesVC.mk _ rfl ?_ | refine DivVC.mk (by omega) (by omega) ?_); set_option smartUnfolding false in conv => whnf))))
          refine call_con (N := []) (code_con _ sCommit (k : Int) 4) ?_
          ((set_option smartUnfolding false in conv => whnf) <;> (repeat (first | exact True.intro | ((first | refine ⟨rfl, ?_⟩ | refine ar (by omega) (by omega) ?_ | refine ar8 (by omega) (by omega) ?_ | refine ix (by omega) ?_ | refine IdxVC.mk 0 rfl (by omega) ?_ | refine BytesVC.mk _ rfl ?_ | refine DivVC.mk (by omega) (by omega) ?_); set_option smartUnfolding false in conv => whnf))))
          rintro x P21 H' - ⟨rfl, rfl, rfl⟩
          ((set_option smartUnfolding false in conv => whnf) <;> (repeat (first | exact True.intro | ((first | refine ⟨rfl, ?_⟩ | refine ar (by omega) (by omega) ?_ | refine ar8 (by omega) (by omega) ?_ | refine ix (by omega) ?_ | refine IdxVC.mk 0 rfl (by omega) ?_ | refine BytesVC.mk _ rfl ?_ | refine DivVC.mk (by omega) (by omega) ?_); set_option smartUnfolding false in conv => whnf))))
          refine call_con (N := []) (Calls_con _ D) ?_
          ((set_option smartUnfolding false in conv => whnf) <;> (repeat (first | exact True.intro | ((first | refine ⟨rfl, ?_⟩ | refine ar (by omega) (by omega) ?_ | refine ar8 (by omega) (by omega) ?_ | refine ix (by omega) ?_ | refine IdxVC.mk 0 rfl (by omega) ?_ | refine BytesVC.mk _ rfl ?_ | refine DivVC.mk (by omega) (by omega) ?_); set_option smartUnfolding false in conv => whnf))))
          rintro x P22 H' - ⟨rfl, rfl, rfl⟩
          ((set_option smartUnfolding false in conv => whnf) <;> (repeat (first | exact True.intro | ((first | refine ⟨rfl, ?_⟩ | refine ar (by omega) (by omega) ?_ | refine ar8 (by omega) (by omega) ?_ | refine ix (by omega) ?_ | refine IdxVC.mk 0 rfl (by omega) ?_ | refine BytesVC.mk _ rfl ?_ | refine DivVC.mk (by omega) (by omega) ?_); set_option smartUnfolding false in conv => whnf))))
          refine bxd (fun _ => ?_) (fun h => absurd rfl h)
          ((set_option smartUnfolding false in conv => whnf) <;> (repeat (first | exact True.intro | ((first | refine ⟨rfl, ?_⟩ | refine ar (by omega) (by omega) ?_ | refine ar8 (by omega) (by omega) ?_ | refine ix (by omega) ?_ | refine IdxVC.mk 0 rfl (by omega) ?_ | refine BytesVC.mk _ rfl ?_ | refine DivVC.mk (by omega) (by omega) ?_); set_option smartUnfolding false in conv => whnf))))
          refine call_con (N := []) (clean_con _ p more pc1 L hD.pages.len hD.pages.each hp hmo D hD.pend (hD.img hn)) ?_
          ((set_option smartUnfolding false in conv => whnf) <;> (repeat (first | exact True.intro | ((first | refine ⟨rfl, ?_⟩ | refine ar (by omega) (by omega) ?_ | refine ar8 (by omega) (by omega) ?_ | refine ix (by omega) ?_ | refine IdxVC.mk 0 rfl (by omega) ?_ | refine BytesVC.mk _ rfl ?_ | refine DivVC.mk (by omega) (by omega) ?_); set_option smartUnfolding false in conv => whnf))))
          rintro x P23 H' - ⟨rfl, rfl, rfl⟩
          ((set_option smartUnfolding false in conv => whnf) <;> (repeat (first | exact True.intro | ((first | refine ⟨rfl, ?_⟩ | refine ar (by omega) (by omega) ?_ | refine ar8 (by omega) (by omega) ?_ | refine ix (by omega) ?_ | refine IdxVC.mk 0 rfl (by omega) ?_ | refine BytesVC.mk _ rfl ?_ | refine DivVC.mk (by omega) (by omega) ?_); set_option smartUnfolding false in conv => whnf))))
          refine call_con (N := []) (stands_con _ p more pc1 pc1 L hD.pages.len hp D hD.pend (fun k => L.getD k []) (fun k hk => hD.page (by omega) hk)) ?_
          ((set_option smartUnfolding false in conv => whnf) <;> (repeat (first | exact True.intro | ((first | refine ⟨rfl, ?_⟩ | refine ar (by omega) (by omega) ?_ | refine ar8 (by omega) (by omega) ?_ | refine ix (by omega) ?_ | refine IdxVC.mk 0 rfl (by omega) ?_ | refine BytesVC.mk _ rfl ?_ | refine DivVC.mk (by omega) (by omega) ?_); set_option smartUnfolding false in conv => whnf))))
          rintro x P24 H' - ⟨rfl, rfl, rfl⟩
          rw [rm_stands hD]
          ((set_option smartUnfolding false in conv => whnf) <;> (repeat (first | exact True.intro | ((first | refine ⟨rfl, ?_⟩ | refine ar (by omega) (by omega) ?_ | refine ar8 (by omega) (by omega) ?_ | refine ix (by omega) ?_ | refine IdxVC.mk 0 rfl (by omega) ?_ | refine BytesVC.mk _ rfl ?_ | refine DivVC.mk (by omega) (by omega) ?_); set_option smartUnfolding false in conv => whnf))))
        · ((set_option smartUnfolding false in conv => whnf) <;> (repeat (first | exact True.intro | ((first | refine ⟨rfl, ?_⟩ | refine ar (by omega) (by omega) ?_ | refine ar8 (by omega) (by omega) ?_ | refine ix (by omega) ?_ | refine IdxVC.mk 0 rfl (by omega) ?_ | refine BytesVC.mk _ rfl ?_ | refine DivVC.mk (by omega) (by omega) ?_); set_option smartUnfolding false in conv => whnf))))
          have hask : askJ p ((zs.map toJ).set (0 + k) y1) = (k, 4) := by
            rw [Nat.zero_add]
            exact ask_place p zs k hkl hw.nodup hw.fit y1 (.inl (by rw [hy1]; show -1 - (r : Int) < 0; omega))
          have hcb := CommitBad_con P9 p zs.length co ((zs.map toJ).set (0 + k) y1) (by omega) (by simp) (by omega) hzl (by rw [hask]; show ((4 : Int)) ≠ 0; omega)
          rw [hask] at hcb
          refine call_con (N := [25]) hcb ?_
          ((set_option smartUnfolding false in conv => whnf) <;> (repeat (first | exact True.intro | ((first | refine ⟨rfl, ?_⟩ | refine ar (by omega) (by omega) ?_ | refine ar8 (by omega) (by omega) ?_ | refine ix (by omega) ?_ | refine IdxVC.mk 0 rfl (by omega) ?_ | refine BytesVC.mk _ rfl ?_ | refine DivVC.mk (by omega) (by omega) ?_); set_option smartUnfolding false in conv => whnf))))
          rintro x P20 H' - ⟨rfl, rfl, rfl⟩
          ((set_option smartUnfolding false in conv => whnf) <;> (repeat (first | exact True.intro | ((first | refine ⟨rfl, ?_⟩ | refine ar (by omega) (by omega) ?_ | refine ar8 (by omega) (by omega) ?_ | refine ix (by omega) ?_ | refine IdxVC.mk 0 rfl (by omega) ?_ | refine BytesVC.mk _ rfl ?_ | refine DivVC.mk (by omega) (by omega) ?_); set_option smartUnfolding false in conv => whnf))))
          refine bxd (fun _ => ?_) (fun h => absurd rfl h)
          ((set_option smartUnfolding false in conv => whnf) <;> (repeat (first | exact True.intro | ((first | refine ⟨rfl, ?_⟩ | refine ar (by omega) (by omega) ?_ | refine ar8 (by omega) (by omega) ?_ | refine ix (by omega) ?_ | refine IdxVC.mk 0 rfl (by omega) ?_ | refine BytesVC.mk _ rfl ?_ | refine DivVC.mk (by omega) (by omega) ?_); set_option smartUnfolding false in conv => whnf))))
          refine StrVC.mk true (beq_self_eq_true _) ?_
          ((set_option smartUnfolding false in conv => whnf) <;> (repeat (first | exact True.intro | ((first | refine ⟨rfl, ?_⟩ | refine ar (by omega) (by omega) ?_ | refine ar8 (by omega) (by omega) ?_ | refine ix (by omega) ?_ | refine IdxVC.mk 0 rfl (by omega) ?_ | refine BytesVC.mk _ rfl ?_ | refine DivVC.mk (by omega) (by omega) ?_); set_option smartUnfolding false in conv => whnf))))
          refine call_con (N := []) (code_con _ sCommit (k : Int) 4) ?_
          ((set_option smartUnfolding false in conv => whnf) <;> (repeat (first | exact True.intro | ((first | refine ⟨rfl, ?_⟩ | refine ar (by omega) (by omega) ?_ | refine ar8 (by omega) (by omega) ?_ | refine ix (by omega) ?_ | refine IdxVC.mk 0 rfl (by omega) ?_ | refine BytesVC.mk _ rfl ?_ | refine DivVC.mk (by omega) (by omega) ?_); set_option smartUnfolding false in conv => whnf))))
          rintro x P21 H' - ⟨rfl, rfl, rfl⟩
          ((set_option smartUnfolding false in conv => whnf) <;> (repeat (first | exact True.intro | ((first | refine ⟨rfl, ?_⟩ | refine ar (by omega) (by omega) ?_ | refine ar8 (by omega) (by omega) ?_ | refine ix (by omega) ?_ | refine IdxVC.mk 0 rfl (by omega) ?_ | refine BytesVC.mk _ rfl ?_ | refine DivVC.mk (by omega) (by omega) ?_); set_option smartUnfolding false in conv => whnf))))
          refine call_con (N := []) (Calls_con _ D) ?_
          ((set_option smartUnfolding false in conv => whnf) <;> (repeat (first | exact True.intro | ((first | refine ⟨rfl, ?_⟩ | refine ar (by omega) (by omega) ?_ | refine ar8 (by omega) (by omega) ?_ | refine ix (by omega) ?_ | refine IdxVC.mk 0 rfl (by omega) ?_ | refine BytesVC.mk _ rfl ?_ | refine DivVC.mk (by omega) (by omega) ?_); set_option smartUnfolding false in conv => whnf))))
          rintro x P22 H' - ⟨rfl, rfl, rfl⟩
          ((set_option smartUnfolding false in conv => whnf) <;> (repeat (first | exact True.intro | ((first | refine ⟨rfl, ?_⟩ | refine ar (by omega) (by omega) ?_ | refine ar8 (by omega) (by omega) ?_ | refine ix (by omega) ?_ | refine IdxVC.mk 0 rfl (by omega) ?_ | refine BytesVC.mk _ rfl ?_ | refine DivVC.mk (by omega) (by omega) ?_); set_option smartUnfolding false in conv => whnf))))
          refine bxd (fun _ => ?_) (fun h => absurd rfl h)
          ((set_option smartUnfolding false in conv => whnf) <;> (repeat (first | exact True.intro | ((first | refine ⟨rfl, ?_⟩ | refine ar (by omega) (by omega) ?_ | refine ar8 (by omega) (by omega) ?_ | refine ix (by omega) ?_ | refine IdxVC.mk 0 rfl (by omega) ?_ | refine BytesVC.mk _ rfl ?_ | refine DivVC.mk (by omega) (by omega) ?_); set_option smartUnfolding false in conv => whnf))))
          refine call_con (N := []) (clean_con _ p more pc1 L hD.pages.len hD.pages.each hp hmo D hD.pend (hD.img hn)) ?_
          ((set_option smartUnfolding false in conv => whnf) <;> (repeat (first | exact True.intro | ((first | refine ⟨rfl, ?_⟩ | refine ar (by omega) (by omega) ?_ | refine ar8 (by omega) (by omega) ?_ | refine ix (by omega) ?_ | refine IdxVC.mk 0 rfl (by omega) ?_ | refine BytesVC.mk _ rfl ?_ | refine DivVC.mk (by omega) (by omega) ?_); set_option smartUnfolding false in conv => whnf))))
          rintro x P23 H' - ⟨rfl, rfl, rfl⟩
          ((set_option smartUnfolding false in conv => whnf) <;> (repeat (first | exact True.intro | ((first | refine ⟨rfl, ?_⟩ | refine ar (by omega) (by omega) ?_ | refine ar8 (by omega) (by omega) ?_ | refine ix (by omega) ?_ | refine IdxVC.mk 0 rfl (by omega) ?_ | refine BytesVC.mk _ rfl ?_ | refine DivVC.mk (by omega) (by omega) ?_); set_option smartUnfolding false in conv => whnf))))
          refine call_con (N := []) (stands_con _ p more pc1 pc1 L hD.pages.len hp D hD.pend (fun k => L.getD k []) (fun k hk => hD.page (by omega) hk)) ?_
          ((set_option smartUnfolding false in conv => whnf) <;> (repeat (first | exact True.intro | ((first | refine ⟨rfl, ?_⟩ | refine ar (by omega) (by omega) ?_ | refine ar8 (by omega) (by omega) ?_ | refine ix (by omega) ?_ | refine IdxVC.mk 0 rfl (by omega) ?_ | refine BytesVC.mk _ rfl ?_ | refine DivVC.mk (by omega) (by omega) ?_); set_option smartUnfolding false in conv => whnf))))
          rintro x P24 H' - ⟨rfl, rfl, rfl⟩
          rw [rm_stands hD]
          ((set_option smartUnfolding false in conv => whnf) <;> (repeat (first | exact True.intro | ((first | refine ⟨rfl, ?_⟩ | refine ar (by omega) (by omega) ?_ | refine ar8 (by omega) (by omega) ?_ | refine ix (by omega) ?_ | refine IdxVC.mk 0 rfl (by omega) ?_ | refine BytesVC.mk _ rfl ?_ | refine DivVC.mk (by omega) (by omega) ?_); set_option smartUnfolding false in conv => whnf))))
      · ((set_option smartUnfolding false in conv => whnf) <;> (repeat (first | exact True.intro | ((first | refine ⟨rfl, ?_⟩ | refine ar (by omega) (by omega) ?_ | refine ar8 (by omega) (by omega) ?_ | refine ix (by omega) ?_ | refine IdxVC.mk 0 rfl (by omega) ?_ | refine BytesVC.mk _ rfl ?_ | refine DivVC.mk (by omega) (by omega) ?_); set_option smartUnfolding false in conv => whnf))))
        refine bxd (fun hq1 => ?_) (fun hq1 => ?_)
        · ((set_option smartUnfolding false in conv => whnf) <;> (repeat (first | exact True.intro | ((first | refine ⟨rfl, ?_⟩ | refine ar (by omega) (by omega) ?_ | refine ar8 (by omega) (by omega) ?_ | refine ix (by omega) ?_ | refine IdxVC.mk 0 rfl (by omega) ?_ | refine BytesVC.mk _ rfl ?_ | refine DivVC.mk (by omega) (by omega) ?_); set_option smartUnfolding false in conv => whnf))))
          obtain ⟨r, hr⟩ : ∃ r : Nat, nu % 1024 = r := ⟨(nu % 1024).toNat, by have := Int.emod_nonneg nu (show (1024 : Int) ≠ 0 by omega); omega⟩
          have hr1 : r < 1024 := by have := Int.emod_lt_of_pos nu (show (0 : Int) < 1024 by omega); omega
          have hpr : ∀ P, _ := fun P => pick_con P nu 1024 (by omega) (by omega) n1 n2
          rw [hr] at hpr
          have hzf := hw.fit zs[k] (List.getElem_mem hkl)
          refine .mk (toJ zs[k]) hjk ?_
          ((set_option smartUnfolding false in conv => whnf) <;> (repeat (first | exact True.intro | ((first | refine ⟨rfl, ?_⟩ | refine ar (by omega) (by omega) ?_ | refine ar8 (by omega) (by omega) ?_ | refine ix (by omega) ?_ | refine IdxVC.mk 0 rfl (by omega) ?_ | refine BytesVC.mk _ rfl ?_ | refine DivVC.mk (by omega) (by omega) ?_); set_option smartUnfolding false in conv => whnf))))
          refine call_con (N := []) (hpr _) ?_
          ((set_option smartUnfolding false in conv => whnf) <;> (repeat (first | exact True.intro | ((first | refine ⟨rfl, ?_⟩ | refine ar (by omega) (by omega) ?_ | refine ar8 (by omega) (by omega) ?_ | refine ix (by omega) ?_ | refine IdxVC.mk 0 rfl (by omega) ?_ | refine BytesVC.mk _ rfl ?_ | refine DivVC.mk (by omega) (by omega) ?_); set_option smartUnfolding false in conv => whnf))))
          rintro x P9 H' - ⟨rfl, rfl, rfl⟩
          ((set_option smartUnfolding false in conv => whnf) <;> (repeat (first | exact True.intro | ((first | refine ⟨rfl, ?_⟩ | refine ar (by omega) (by omega) ?_ | refine ar8 (by omega) (by omega) ?_ | refine ix (by omega) ?_ | refine IdxVC.mk 0 rfl (by omega) ?_ | refine BytesVC.mk _ rfl ?_ | refine DivVC.mk (by omega) (by omega) ?_); set_option smartUnfolding false in conv => whnf))))
          refine And.intro ?_ ?_
          · ((set_option smartUnfolding false in conv => whnf) <;> (repeat (first | exact True.intro | ((first | refine ⟨rfl, ?_⟩ | refine ar (by omega) (by omega) ?_ | refine ar8 (by omega) (by omega) ?_ | refine ix (by omega) ?_ | refine IdxVC.mk 0 rfl (by omega) ?_ | refine BytesVC.mk _ rfl ?_ | refine DivVC.mk (by omega) (by omega) ?_); set_option smartUnfolding false in conv => whnf))))
            refine .mk (toJ zs[k]) hjk ?_
            ((set_option smartUnfolding false in conv => whnf) <;> (repeat (first | exact True.intro | ((first | refine ⟨rfl, ?_⟩ | refine ar (by omega) (by omega) ?_ | refine ar8 (by omega) (by omega) ?_ | refine ix (by omega) ?_ | refine IdxVC.mk 0 rfl (by omega) ?_ | refine BytesVC.mk _ rfl ?_ | refine DivVC.mk (by omega) (by omega) ?_); set_option smartUnfolding false in conv => whnf))))
          ((set_option smartUnfolding false in conv => whnf) <;> (repeat (first | exact True.intro | ((first | refine ⟨rfl, ?_⟩ | refine ar (by omega) (by omega) ?_ | refine ar8 (by omega) (by omega) ?_ | refine ix (by omega) ?_ | refine IdxVC.mk 0 rfl (by omega) ?_ | refine BytesVC.mk _ rfl ?_ | refine DivVC.mk (by omega) (by omega) ?_); set_option smartUnfolding false in conv => whnf))))
          refine .mk 0 r rfl rfl (by omega) (by show r ≤ zs[k].1.2.length; omega) ?_
          ((set_option smartUnfolding false in conv => whnf) <;> (repeat (first | exact True.intro | ((first | refine ⟨rfl, ?_⟩ | refine ar (by omega) (by omega) ?_ | refine ar8 (by omega) (by omega) ?_ | refine ix (by omega) ?_ | refine IdxVC.mk 0 rfl (by omega) ?_ | refine BytesVC.mk _ rfl ?_ | refine DivVC.mk (by omega) (by omega) ?_); set_option smartUnfolding false in conv => whnf))))
          obtain ⟨y1, hy1⟩ : ∃ y : Pj, y = ((zs[k].1.1 : Int), (if zs[k].2.2 = 0 then zs[k].2.1 else zs[k].2.1.map (·.add 0)), zs[k].2.2 - 0, (zs[k].1.2.take r).drop 0) := ⟨_, rfl⟩
          refine .mk (toJ zs[k]) y1 hjk (by rw [hy1]; rfl) (by show 1 + 1 ≤ 2; omega) ?_
          ((set_option smartUnfolding false in conv => whnf) <;> (repeat (first | exact True.intro | ((first | refine ⟨rfl, ?_⟩ | refine ar (by omega) (by omega) ?_ | refine ar8 (by omega) (by omega) ?_ | refine ix (by omega) ?_ | refine IdxVC.mk 0 rfl (by omega) ?_ | refine BytesVC.mk _ rfl ?_ | refine DivVC.mk (by omega) (by omega) ?_); set_option smartUnfolding false in conv => whnf))))
          have hask : askJ p ((zs.map toJ).set (0 + k) y1) = (k, 82) := by
            rw [Nat.zero_add]
            exact ask_data p zs k hkl hw.nodup hw.fit y1 (by rw [hy1]; show 0 ≤ (zs[k].1.1 : Int) ∧ (zs[k].1.1 : Int) < p; omega) (by rw [hy1]; show ((zs[k].1.2.take r).drop 0).length ≠ 1024; rw [List.length_drop, List.length_take]; omega)
          have hcb := CommitBad_con P9 p zs.length co ((zs.map toJ).set (0 + k) y1) (by omega) (by simp) (by omega) hzl (by rw [hask]; show ((82 : Int)) ≠ 0; omega)
          rw [hask] at hcb
          refine call_con (N := [25]) hcb ?_
          ((set_option smartUnfolding false in conv => whnf) <;> (repeat (first | exact True.intro | ((first | refine ⟨rfl, ?_⟩ | refine ar (by omega) (by omega) ?_ | refine ar8 (by omega) (by omega) ?_ | refine ix (by omega) ?_ | refine IdxVC.mk 0 rfl (by omega) ?_ | refine BytesVC.mk _ rfl ?_ | refine DivVC.mk (by omega) (by omega) ?_); set_option smartUnfolding false in conv => whnf))))
          rintro x P20 H' - ⟨rfl, rfl, rfl⟩
          ((set_option smartUnfolding false in conv => whnf) <;> (repeat (first | exact True.intro | ((first | refine ⟨rfl, ?_⟩ | refine ar (by omega) (by omega) ?_ | refine ar8 (by omega) (by omega) ?_ | refine ix (by omega) ?_ | refine IdxVC.mk 0 rfl (by omega) ?_ | refine BytesVC.mk _ rfl ?_ | refine DivVC.mk (by omega) (by omega) ?_); set_option smartUnfolding false in conv => whnf))))
          refine bxd (fun _ => ?_) (fun h => absurd rfl h)
          ((set_option smartUnfolding false in conv => whnf) <;> (repeat (first | exact True.intro | ((first | refine ⟨rfl, ?_⟩ | refine ar (by omega) (by omega) ?_ | refine ar8 (by omega) (by omega) ?_ | refine ix (by omega) ?_ | refine IdxVC.mk 0 rfl (by omega) ?_ | refine BytesVC.mk _ rfl ?_ | refine DivVC.mk (by omega) (by omega) ?_); set_option smartUnfolding false in conv => whnf))))
          refine StrVC.mk true (beq_self_eq_true _) ?_
          ((set_option smartUnfolding false in conv => whnf) <;> (repeat (first | exact True.intro | ((first | refine ⟨rfl, ?_⟩ | refine ar (by omega) (by omega) ?_ | refine ar8 (by omega) (by omega) ?_ | refine ix (by omega) ?_ | refine IdxVC.mk 0 rfl (by omega) ?_ | refine BytesVC.mk _ rfl ?_ | refine DivVC.mk (by omega) (by omega) ?_); set_option smartUnfolding false in conv => whnf))))
          refine call_con (N := []) (code_con _ sCommit (k : Int) 82) ?_
          ((set_option smartUnfolding false in conv => whnf) <;> (repeat (first | exact True.intro | ((first | refine ⟨rfl, ?_⟩ | refine ar (by omega) (by omega) ?_ | refine ar8 (by omega) (by omega) ?_ | refine ix (by omega) ?_ | refine IdxVC.mk 0 rfl (by omega) ?_ | refine BytesVC.mk _ rfl ?_ | refine DivVC.mk (by omega) (by omega) ?_); set_option smartUnfolding false in conv => whnf))))
          rintro x P21 H' - ⟨rfl, rfl, rfl⟩
          ((set_option smartUnfolding false in conv => whnf) <;> (repeat (first | exact True.intro | ((first | refine ⟨rfl, ?_⟩ | refine ar (by omega) (by omega) ?_ | refine ar8 (by omega) (by omega) ?_ | refine ix (by omega) ?_ | refine IdxVC.mk 0 rfl (by omega) ?_ | refine BytesVC.mk _ rfl ?_ | refine DivVC.mk (by omega) (by omega) ?_); set_option smartUnfolding false in conv => whnf))))
          refine call_con (N := []) (Calls_con _ D) ?_
          ((set_option smartUnfolding false in conv => whnf) <;> (repeat (first | exact True.intro | ((first | refine ⟨rfl, ?_⟩ | refine ar (by omega) (by omega) ?_ | refine ar8 (by omega) (by omega) ?_ | refine ix (by omega) ?_ | refine IdxVC.mk 0 rfl (by omega) ?_ | refine BytesVC.mk _ rfl ?_ | refine DivVC.mk (by omega) (by omega) ?_); set_option smartUnfolding false in conv => whnf))))
          rintro x P22 H' - ⟨rfl, rfl, rfl⟩
          ((set_option smartUnfolding false in conv => whnf) <;> (repeat (first | exact True.intro | ((first | refine ⟨rfl, ?_⟩ | refine ar (by omega) (by omega) ?_ | refine ar8 (by omega) (by omega) ?_ | refine ix (by omega) ?_ | refine IdxVC.mk 0 rfl (by omega) ?_ | refine BytesVC.mk _ rfl ?_ | refine DivVC.mk (by omega) (by omega) ?_); set_option smartUnfolding false in conv => whnf))))
          refine bxd (fun _ => ?_) (fun h => absurd rfl h)
          ((set_option smartUnfolding false in conv => whnf) <;> (repeat (first | exact True.intro | ((first | refine ⟨rfl, ?_⟩ | refine ar (by omega) (by omega) ?_ | refine ar8 (by omega) (by omega) ?_ | refine ix (by omega) ?_ | refine IdxVC.mk 0 rfl (by omega) ?_ | refine BytesVC.mk _ rfl ?_ | refine DivVC.mk (by omega) (by omega) ?_); set_option smartUnfolding false in conv => whnf))))
          refine call_con (N := []) (clean_con _ p more pc1 L hD.pages.len hD.pages.each hp hmo D hD.pend (hD.img hn)) ?_
          ((set_option smartUnfolding false in conv => whnf) <;> (repeat (first | exact True.intro | ((first | refine ⟨rfl, ?_⟩ | refine ar (by omega) (by omega) ?_ | refine ar8 (by omega) (by omega) ?_ | refine ix (by omega) ?_ | refine IdxVC.mk 0 rfl (by omega) ?_ | refine BytesVC.mk _ rfl ?_ | refine DivVC.mk (by omega) (by omega) ?_); set_option smartUnfolding false in conv => whnf))))
          rintro x P23 H' - ⟨rfl, rfl, rfl⟩
          ((set_option smartUnfolding false in conv => whnf) <;> (repeat (first | exact True.intro | ((first | refine ⟨rfl, ?_⟩ | refine ar (by omega) (by omega) ?_ | refine ar8 (by omega) (by omega) ?_ | refine ix (by omega) ?_ | refine IdxVC.mk 0 rfl (by omega) ?_ | refine BytesVC.mk _ rfl ?_ | refine DivVC.mk (by omega) (by omega) ?_); set_option smartUnfolding false in conv => whnf))))
          refine call_con (N := []) (stands_con _ p more pc1 pc1 L hD.pages.len hp D hD.pend (fun k => L.getD k []) (fun k hk => hD.page (by omega) hk)) ?_
          ((set_option smartUnfolding false in conv => whnf) <;> (repeat (first | exact True.intro | ((first | refine ⟨rfl, ?_⟩ | refine ar (by omega) (by omega) ?_ | refine ar8 (by omega) (by omega) ?_ | refine ix (by omega) ?_ | refine IdxVC.mk 0 rfl (by omega) ?_ | refine BytesVC.mk _ rfl ?_ | refine DivVC.mk (by omega) (by omega) ?_); set_option smartUnfolding false in conv => whnf))))
          rintro x P24 H' - ⟨rfl, rfl, rfl⟩
          rw [rm_stands hD]
          ((set_option smartUnfolding false in conv => whnf) <;> (repeat (first | exact True.intro | ((first | refine ⟨rfl, ?_⟩ | refine ar (by omega) (by omega) ?_ | refine ar8 (by omega) (by omega) ?_ | refine ix (by omega) ?_ | refine IdxVC.mk 0 rfl (by omega) ?_ | refine BytesVC.mk _ rfl ?_ | refine DivVC.mk (by omega) (by omega) ?_); set_option smartUnfolding false in conv => whnf))))
        · have hq2 : cut % 3 = 2 := by have := Int.emod_nonneg cut (show (3 : Int) ≠ 0 by omega); have := Int.emod_lt_of_pos cut (show (0 : Int) < 3 by omega); omega
          ((set_option smartUnfolding false in conv => whnf) <;> (repeat (first | exact True.intro | ((first | refine ⟨rfl, ?_⟩ | refine ar (by omega) (by omega) ?_ | refine ar8 (by omega) (by omega) ?_ | refine ix (by omega) ?_ | refine IdxVC.mk 0 rfl (by omega) ?_ | refine BytesVC.mk _ rfl ?_ | refine DivVC.mk (by omega) (by omega) ?_); set_option smartUnfolding false in conv => whnf))))
          refine bxd (fun hk0 => ?_) (fun hk0 => ?_)
          · ((set_option smartUnfolding false in conv => whnf) <;> (repeat (first | exact True.intro | ((first | refine ⟨rfl, ?_⟩ | refine ar (by omega) (by omega) ?_ | refine ar8 (by omega) (by omega) ?_ | refine ix (by omega) ?_ | refine IdxVC.mk 0 rfl (by omega) ?_ | refine BytesVC.mk _ rfl ?_ | refine DivVC.mk (by omega) (by omega) ?_); set_option smartUnfolding false in conv => whnf))))
          · have hk0 : 0 < k := by omega
            obtain ⟨j, hj⟩ : ∃ j : Nat, nu % (k : Int) = j := ⟨(nu % (k : Int)).toNat, by have := Int.emod_nonneg nu (show (k : Int) ≠ 0 by omega); omega⟩
            have hjk2 : j < k := by have := Int.emod_lt_of_pos nu (show (0 : Int) < k by omega); omega
            have hjl : j < zs.length := by omega
            have hjj : (zs.map toJ)[0 + j]? = some (toJ zs[j]) := by rw [Nat.zero_add, List.getElem?_map, List.getElem?_eq_getElem hjl]; rfl
            have hpr : ∀ P, _ := fun P => pick_con P nu (k : Int) (by omega) (by omega) n1 n2
            rw [hj] at hpr
            ((set_option smartUnfolding false in conv => whnf) <;> (repeat (first | exact True.intro | ((first | refine ⟨rfl, ?_⟩ | refine ar (by omega) (by omega) ?_ | refine ar8 (by omega) (by omega) ?_ | refine ix (by omega) ?_ | refine IdxVC.mk 0 rfl (by omega) ?_ | refine BytesVC.mk _ rfl ?_ | refine DivVC.mk (by omega) (by omega) ?_); set_option smartUnfolding false in conv => whnf))))
            refine call_con (N := []) (hpr _) ?_
            ((set_option smartUnfolding false in conv => whnf) <;> (repeat (first | exact True.intro | ((first | refine ⟨rfl, ?_⟩ | refine ar (by omega) (by omega) ?_ | refine ar8 (by omega) (by omega) ?_ | refine ix (by omega) ?_ | refine IdxVC.mk 0 rfl (by omega) ?_ | refine BytesVC.mk _ rfl ?_ | refine DivVC.mk (by omega) (by omega) ?_); set_option smartUnfolding false in conv => whnf))))
            rintro x P9 H' - ⟨rfl, rfl, rfl⟩
            ((set_option smartUnfolding false in conv => whnf) <;> (repeat (first | exact True.intro | ((first | refine ⟨rfl, ?_⟩ | refine ar (by omega) (by omega) ?_ | refine ar8 (by omega) (by omega) ?_ | refine ix (by omega) ?_ | refine IdxVC.mk 0 rfl (by omega) ?_ | refine BytesVC.mk _ rfl ?_ | refine DivVC.mk (by omega) (by omega) ?_); set_option smartUnfolding false in conv => whnf))))
            refine .mk (toJ zs[j]) hjj ?_
            ((set_option smartUnfolding false in conv => whnf) <;> (repeat (first | exact True.intro | ((first | refine ⟨rfl, ?_⟩ | refine ar (by omega) (by omega) ?_ | refine ar8 (by omega) (by omega) ?_ | refine ix (by omega) ?_ | refine IdxVC.mk 0 rfl (by omega) ?_ | refine BytesVC.mk _ rfl ?_ | refine DivVC.mk (by omega) (by omega) ?_); set_option smartUnfolding false in conv => whnf))))
            obtain ⟨y1, hy1⟩ : ∃ y : Pj, y = ((zs[j].1.1 : Int), zs[k].2.1, zs[k].2.2, zs[k].1.2) := ⟨_, rfl⟩
            refine .mk (toJ zs[k]) y1 hjk (by rw [hy1]; rfl) (by show 0 + 1 ≤ 2; omega) ?_
            ((set_option smartUnfolding false in conv => whnf) <;> (repeat (first | exact True.intro | ((first | refine ⟨rfl, ?_⟩ | refine ar (by omega) (by omega) ?_ | refine ar8 (by omega) (by omega) ?_ | refine ix (by omega) ?_ | refine IdxVC.mk 0 rfl (by omega) ?_ | refine BytesVC.mk _ rfl ?_ | refine DivVC.mk (by omega) (by omega) ?_); set_option smartUnfolding false in conv => whnf))))
            have hask : askJ p ((zs.map toJ).set (0 + k) y1) = (k, 91) := by
              rw [Nat.zero_add]
              exact ask_twice p zs k j hkl hjk2 hw.nodup hw.fit y1 (by rw [hy1]) (by rw [hy1]; exact (hw.fit zs[k] (List.getElem_mem hkl)).2)
            have hcb := CommitBad_con P9 p zs.length co ((zs.map toJ).set (0 + k) y1) (by omega) (by simp) (by omega) hzl (by rw [hask]; show ((91 : Int)) ≠ 0; omega)
            rw [hask] at hcb
            refine call_con (N := [25]) hcb ?_
            ((set_option smartUnfolding false in conv => whnf) <;> (repeat (first | exact True.intro | ((first | refine ⟨rfl, ?_⟩ | refine ar (by omega) (by omega) ?_ | refine ar8 (by omega) (by omega) ?_ | refine ix (by omega) ?_ | refine IdxVC.mk 0 rfl (by omega) ?_ | refine BytesVC.mk _ rfl ?_ | refine DivVC.mk (by omega) (by omega) ?_); set_option smartUnfolding false in conv => whnf))))
            rintro x P20 H' - ⟨rfl, rfl, rfl⟩
            ((set_option smartUnfolding false in conv => whnf) <;> (repeat (first | exact True.intro | ((first | refine ⟨rfl, ?_⟩ | refine ar (by omega) (by omega) ?_ | refine ar8 (by omega) (by omega) ?_ | refine ix (by omega) ?_ | refine IdxVC.mk 0 rfl (by omega) ?_ | refine BytesVC.mk _ rfl ?_ | refine DivVC.mk (by omega) (by omega) ?_); set_option smartUnfolding false in conv => whnf))))
            refine bxd (fun _ => ?_) (fun h => absurd rfl h)
            ((set_option smartUnfolding false in conv => whnf) <;> (repeat (first | exact True.intro | ((first | refine ⟨rfl, ?_⟩ | refine ar (by omega) (by omega) ?_ | refine ar8 (by omega) (by omega) ?_ | refine ix (by omega) ?_ | refine IdxVC.mk 0 rfl (by omega) ?_ | refine BytesVC.mk _ rfl ?_ | refine DivVC.mk (by omega) (by omega) ?_); set_option smartUnfolding false in conv => whnf))))
            refine StrVC.mk true (beq_self_eq_true _) ?_
            ((set_option smartUnfolding false in conv => whnf) <;> (repeat (first | exact True.intro | ((first | refine ⟨rfl, ?_⟩ | refine ar (by omega) (by omega) ?_ | refine ar8 (by omega) (by omega) ?_ | refine ix (by omega) ?_ | refine IdxVC.mk 0 rfl (by omega) ?_ | refine BytesVC.mk _ rfl ?_ | refine DivVC.mk (by omega) (by omega) ?_); set_option smartUnfolding false in conv => whnf))))
            refine call_con (N := []) (code_con _ sCommit (k : Int) 91) ?_
            ((set_option smartUnfolding false in conv => whnf) <;> (repeat (first | exact True.intro | ((first | refine ⟨rfl, ?_⟩ | refine ar (by omega) (by omega) ?_ | refine ar8 (by omega) (by omega) ?_ | refine ix (by omega) ?_ | refine IdxVC.mk 0 rfl (by omega) ?_ | refine BytesVC.mk _ rfl ?_ | refine DivVC.mk (by omega) (by omega) ?_); set_option smartUnfolding false in conv => whnf))))
            rintro x P21 H' - ⟨rfl, rfl, rfl⟩
            ((set_option smartUnfolding false in conv => whnf) <;> (repeat (first | exact True.intro | ((first | refine ⟨rfl, ?_⟩ | refine ar (by omega) (by omega) ?_ | refine ar8 (by omega) (by omega) ?_ | refine ix (by omega) ?_ | refine IdxVC.mk 0 rfl (by omega) ?_ | refine BytesVC.mk _ rfl ?_ | refine DivVC.mk (by omega) (by omega) ?_); set_option smartUnfolding false in conv => whnf))))
            refine call_con (N := []) (Calls_con _ D) ?_
            ((set_option smartUnfolding false in conv => whnf) <;> (repeat (first | exact True.intro | ((first | refine ⟨rfl, ?_⟩ | refine ar (by omega) (by omega) ?_ | refine ar8 (by omega) (by omega) ?_ | refine ix (by omega) ?_ | refine IdxVC.mk 0 rfl (by omega) ?_ | refine BytesVC.mk _ rfl ?_ | refine DivVC.mk (by omega) (by omega) ?_); set_option smartUnfolding false in conv => whnf))))
            rintro x P22 H' - ⟨rfl, rfl, rfl⟩
            ((set_option smartUnfolding false in conv => whnf) <;> (repeat (first | exact True.intro | ((first | refine ⟨rfl, ?_⟩ | refine ar (by omega) (by omega) ?_ | refine ar8 (by omega) (by omega) ?_ | refine ix (by omega) ?_ | refine IdxVC.mk 0 rfl (by omega) ?_ | refine BytesVC.mk _ rfl ?_ | refine DivVC.mk (by omega) (by omega) ?_); set_option smartUnfolding false in conv => whnf))))
            refine bxd (fun _ => ?_) (fun h => absurd rfl h)
            ((set_option smartUnfolding false in conv => whnf) <;> (repeat (first | exact True.intro | ((first | refine ⟨rfl, ?_⟩ | refine ar (by omega) (by omega) ?_ | refine ar8 (by omega) (by omega) ?_ | refine ix (by omega) ?_ | refine IdxVC.mk 0 rfl (by omega) ?_ | refine BytesVC.mk _ rfl ?_ | refine DivVC.mk (by omega) (by omega) ?_); set_option smartUnfolding false in conv => whnf))))
            refine call_con (N := []) (clean_con _ p more pc1 L hD.pages.len hD.pages.each hp hmo D hD.pend (hD.img hn)) ?_
            ((set_option smartUnfolding false in conv => whnf) <;> (repeat (first | exact True.intro | ((first | refine ⟨rfl, ?_⟩ | refine ar (by omega) (by omega) ?_ | refine ar8 (by omega) (by omega) ?_ | refine ix (by omega) ?_ | refine IdxVC.mk 0 rfl (by omega) ?_ | refine BytesVC.mk _ rfl ?_ | refine DivVC.mk (by omega) (by omega) ?_); set_option smartUnfolding false in conv => whnf))))
            rintro x P23 H' - ⟨rfl, rfl, rfl⟩
            ((set_option smartUnfolding false in conv => whnf) <;> (repeat (first | exact True.intro | ((first | refine ⟨rfl, ?_⟩ | refine ar (by omega) (by omega) ?_ | refine ar8 (by omega) (by omega) ?_ | refine ix (by omega) ?_ | refine IdxVC.mk 0 rfl (by omega) ?_ | refine BytesVC.mk _ rfl ?_ | refine DivVC.mk (by omega) (by omega) ?_); set_option smartUnfolding false in conv => whnf))))
            refine call_con (N := []) (stands_con _ p more pc1 pc1 L hD.pages.len hp D hD.pend (fun k => L.getD k []) (fun k hk => hD.page (by omega) hk)) ?_
            ((set_option smartUnfolding false in conv => whnf) <;> (repeat (first | exact True.intro | ((first | refine ⟨rfl, ?_⟩ | refine ar (by omega) (by omega) ?_ | refine ar8 (by omega) (by omega) ?_ | refine ix (by omega) ?_ | refine IdxVC.mk 0 rfl (by omega) ?_ | refine BytesVC.mk _ rfl ?_ | refine DivVC.mk (by omega) (by omega) ?_); set_option smartUnfolding false in conv => whnf))))
            rintro x P24 H' - ⟨rfl, rfl, rfl⟩
            rw [rm_stands hD]
            ((set_option smartUnfolding false in conv => whnf) <;> (repeat (first | exact True.intro | ((first | refine ⟨rfl, ?_⟩ | refine ar (by omega) (by omega) ?_ | refine ar8 (by omega) (by omega) ?_ | refine ix (by omega) ?_ | refine IdxVC.mk 0 rfl (by omega) ?_ | refine BytesVC.mk _ rfl ?_ | refine DivVC.mk (by omega) (by omega) ?_); set_option smartUnfolding false in conv => whnf))))
  · ((set_option smartUnfolding false in conv => whnf) <;> (repeat (first | exact True.intro | ((first | refine ⟨rfl, ?_⟩ | refine ar (by omega) (by omega) ?_ | refine ar8 (by omega) (by omega) ?_ | refine ix (by omega) ?_ | refine IdxVC.mk 0 rfl (by omega) ?_ | refine BytesVC.mk _ rfl ?_ | refine DivVC.mk (by omega) (by omega) ?_); set_option smartUnfolding false in conv => whnf))))
    refine call_con (N := [303]) (playsN_con _ n p more pc _ hp1 hp hmo hn D0 hD0 h00) ?_
    ((set_option smartUnfolding false in conv => whnf) <;> (repeat (first | exact True.intro | ((first | refine ⟨rfl, ?_⟩ | refine ar (by omega) (by omega) ?_ | refine ar8 (by omega) (by omega) ?_ | refine ix (by omega) ?_ | refine IdxVC.mk 0 rfl (by omega) ?_ | refine BytesVC.mk _ rfl ?_ | refine DivVC.mk (by omega) (by omega) ?_); set_option smartUnfolding false in conv => whnf))))
    rintro x P3 H' - ⟨D, L, pc1, hD, h0, rfl, rfl⟩
    ((set_option smartUnfolding false in conv => whnf) <;> (repeat (first | exact True.intro | ((first | refine ⟨rfl, ?_⟩ | refine ar (by omega) (by omega) ?_ | refine ar8 (by omega) (by omega) ?_ | refine ix (by omega) ?_ | refine IdxVC.mk 0 rfl (by omega) ?_ | refine BytesVC.mk _ rfl ?_ | refine DivVC.mk (by omega) (by omega) ?_); set_option smartUnfolding false in conv => whnf))))
    refine call_con (N := [306, 17]) (wantedN_con _ p more pc1 L hD.pages.len hp1 hp) ?_
    ((set_option smartUnfolding false in conv => whnf) <;> (repeat (first | exact True.intro | ((first | refine ⟨rfl, ?_⟩ | refine ar (by omega) (by omega) ?_ | refine ar8 (by omega) (by omega) ?_ | refine ix (by omega) ?_ | refine IdxVC.mk 0 rfl (by omega) ?_ | refine BytesVC.mk _ rfl ?_ | refine DivVC.mk (by omega) (by omega) ?_); set_option smartUnfolding false in conv => whnf))))
    rintro x P4 H' - ⟨zs, L', co, ca, hw, rfl, rfl⟩
    ((set_option smartUnfolding false in conv => whnf) <;> (repeat (first | exact True.intro | ((first | refine ⟨rfl, ?_⟩ | refine ar (by omega) (by omega) ?_ | refine ar8 (by omega) (by omega) ?_ | refine ix (by omega) ?_ | refine IdxVC.mk 0 rfl (by omega) ?_ | refine BytesVC.mk _ rfl ?_ | refine DivVC.mk (by omega) (by omega) ?_); set_option smartUnfolding false in conv => whnf))))
    refine call_con (N := []) (Calls_con _ D) ?_
    ((set_option smartUnfolding false in conv => whnf) <;> (repeat (first | exact True.intro | ((first | refine ⟨rfl, ?_⟩ | refine ar (by omega) (by omega) ?_ | refine ar8 (by omega) (by omega) ?_ | refine ix (by omega) ?_ | refine IdxVC.mk 0 rfl (by omega) ?_ | refine BytesVC.mk _ rfl ?_ | refine DivVC.mk (by omega) (by omega) ?_); set_option smartUnfolding false in conv => whnf))))
    rintro x P5 H' - ⟨rfl, rfl, rfl⟩
    ((set_option smartUnfolding false in conv => whnf) <;> (repeat (first | exact True.intro | ((first | refine ⟨rfl, ?_⟩ | refine ar (by omega) (by omega) ?_ | refine ar8 (by omega) (by omega) ?_ | refine ix (by omega) ?_ | refine IdxVC.mk 0 rfl (by omega) ?_ | refine BytesVC.mk _ rfl ?_ | refine DivVC.mk (by omega) (by omega) ?_); set_option smartUnfolding false in conv => whnf))))
    refine call_con (N := []) (Commit0_con _ p (by omega)) ?_
    ((set_option smartUnfolding false in conv => whnf) <;> (repeat (first | exact True.intro | ((first | refine ⟨rfl, ?_⟩ | refine ar (by omega) (by omega) ?_ | refine ar8 (by omega) (by omega) ?_ | refine ix (by omega) ?_ | refine IdxVC.mk 0 rfl (by omega) ?_ | refine BytesVC.mk _ rfl ?_ | refine DivVC.mk (by omega) (by omega) ?_); set_option smartUnfolding false in conv => whnf))))
    rintro x P6 H' - ⟨rfl, rfl, rfl⟩
    ((set_option smartUnfolding false in conv => whnf) <;> (repeat (first | exact True.intro | ((first | refine ⟨rfl, ?_⟩ | refine ar (by omega) (by omega) ?_ | refine ar8 (by omega) (by omega) ?_ | refine ix (by omega) ?_ | refine IdxVC.mk 0 rfl (by omega) ?_ | refine BytesVC.mk _ rfl ?_ | refine DivVC.mk (by omega) (by omega) ?_); set_option smartUnfolding false in conv => whnf))))
    refine bxd (fun hz => ?_) (fun hz => ?_)
    · ((set_option smartUnfolding false in conv => whnf) <;> (repeat (first | exact True.intro | ((first | refine ⟨rfl, ?_⟩ | refine ar (by omega) (by omega) ?_ | refine ar8 (by omega) (by omega) ?_ | refine ix (by omega) ?_ | refine IdxVC.mk 0 rfl (by omega) ?_ | refine BytesVC.mk _ rfl ?_ | refine DivVC.mk (by omega) (by omega) ?_); set_option smartUnfolding false in conv => whnf))))
      refine call_con (N := []) (Calls_con _ D) ?_
      ((set_option smartUnfolding false in conv => whnf) <;> (repeat (first | exact True.intro | ((first | refine ⟨rfl, ?_⟩ | refine ar (by omega) (by omega) ?_ | refine ar8 (by omega) (by omega) ?_ | refine ix (by omega) ?_ | refine IdxVC.mk 0 rfl (by omega) ?_ | refine BytesVC.mk _ rfl ?_ | refine DivVC.mk (by omega) (by omega) ?_); set_option smartUnfolding false in conv => whnf))))
      rintro x P7 H' - ⟨rfl, rfl, rfl⟩
      ((set_option smartUnfolding false in conv => whnf) <;> (repeat (first | exact True.intro | ((first | refine ⟨rfl, ?_⟩ | refine ar (by omega) (by omega) ?_ | refine ar8 (by omega) (by omega) ?_ | refine ix (by omega) ?_ | refine IdxVC.mk 0 rfl (by omega) ?_ | refine BytesVC.mk _ rfl ?_ | refine DivVC.mk (by omega) (by omega) ?_); set_option smartUnfolding false in conv => whnf))))
      exact congrArg (fun b => SV.raw (Value.bool b)) (decide_eq_true rfl)
    · have hzl : 0 < zs.length := by omega
      have hz20 := hw.len
      obtain ⟨k, hk⟩ : ∃ k : Nat, at' % (zs.length : Int) = k := ⟨(at' % (zs.length : Int)).toNat, by have := Int.emod_nonneg at' (show (zs.length : Int) ≠ 0 by omega); omega⟩
      have hkl : k < zs.length := by have := Int.emod_lt_of_pos at' (show (0 : Int) < zs.length by omega); omega
      have hkj : k < (zs.map toJ).length := by rw [List.length_map]; exact hkl
      have hjk : (zs.map toJ)[0 + k]? = some (toJ zs[k]) := by rw [Nat.zero_add, List.getElem?_map, List.getElem?_eq_getElem hkl]; rfl
      have hpk := pick_con P6 at' (zs.length : Int) (by omega) (by omega) t1 t2
      rw [hk] at hpk
      ((set_option smartUnfolding false in conv => whnf) <;> (repeat (first | exact True.intro | ((first | refine ⟨rfl, ?_⟩ | refine ar (by omega) (by omega) ?_ | refine ar8 (by omega) (by omega) ?_ | refine ix (by omega) ?_ | refine IdxVC.mk 0 rfl (by omega) ?_ | refine BytesVC.mk _ rfl ?_ | refine DivVC.mk (by omega) (by omega) ?_); set_option smartUnfolding false in conv => whnf))))
      refine call_con (N := []) hpk ?_
      ((set_option smartUnfolding false in conv => whnf) <;> (repeat (first | exact True.intro | ((first | refine ⟨rfl, ?_⟩ | refine ar (by omega) (by omega) ?_ | refine ar8 (by omega) (by omega) ?_ | refine ix (by omega) ?_ | refine IdxVC.mk 0 rfl (by omega) ?_ | refine BytesVC.mk _ rfl ?_ | refine DivVC.mk (by omega) (by omega) ?_); set_option smartUnfolding false in conv => whnf))))
      rintro x P7 H' - ⟨rfl, rfl, rfl⟩
      ((set_option smartUnfolding false in conv => whnf) <;> (repeat (first | exact True.intro | ((first | refine ⟨rfl, ?_⟩ | refine ar (by omega) (by omega) ?_ | refine ar8 (by omega) (by omega) ?_ | refine ix (by omega) ?_ | refine IdxVC.mk 0 rfl (by omega) ?_ | refine BytesVC.mk _ rfl ?_ | refine DivVC.mk (by omega) (by omega) ?_); set_option smartUnfolding false in conv => whnf))))
      refine call_con (N := []) (pick_con _ cut 3 (by omega) (by omega) c1 c2) ?_
      ((set_option smartUnfolding false in conv => whnf) <;> (repeat (first | exact True.intro | ((first | refine ⟨rfl, ?_⟩ | refine ar (by omega) (by omega) ?_ | refine ar8 (by omega) (by omega) ?_ | refine ix (by omega) ?_ | refine IdxVC.mk 0 rfl (by omega) ?_ | refine BytesVC.mk _ rfl ?_ | refine DivVC.mk (by omega) (by omega) ?_); set_option smartUnfolding false in conv => whnf))))
      rintro x P8 H' - ⟨rfl, rfl, rfl⟩
      ((set_option smartUnfolding false in conv => whnf) <;> (repeat (first | exact True.intro | ((first | refine ⟨rfl, ?_⟩ | refine ar (by omega) (by omega) ?_ | refine ar8 (by omega) (by omega) ?_ | refine ix (by omega) ?_ | refine IdxVC.mk 0 rfl (by omega) ?_ | refine BytesVC.mk _ rfl ?_ | refine DivVC.mk (by omega) (by omega) ?_); set_option smartUnfolding false in conv => whnf))))
      refine bxd (fun hq => ?_) (fun hq => ?_)
      · ((set_option smartUnfolding false in conv => whnf) <;> (repeat (first | exact True.intro | ((first | refine ⟨rfl, ?_⟩ | refine ar (by omega) (by omega) ?_ | refine ar8 (by omega) (by omega) ?_ | refine ix (by omega) ?_ | refine IdxVC.mk 0 rfl (by omega) ?_ | refine BytesVC.mk _ rfl ?_ | refine DivVC.mk (by omega) (by omega) ?_); set_option smartUnfolding false in conv => whnf))))
        obtain ⟨r, hr⟩ : ∃ r : Nat, nu % 1000 = r := ⟨(nu % 1000).toNat, by have := Int.emod_nonneg nu (show (1000 : Int) ≠ 0 by omega); omega⟩
        have hr1 : r < 1000 := by have := Int.emod_lt_of_pos nu (show (0 : Int) < 1000 by omega); omega
        have hpr : ∀ P, _ := fun P => pick_con P nu 1000 (by omega) (by omega) n1 n2
        rw [hr] at hpr
        refine call_con (N := []) (hpr _) ?_
        ((set_option smartUnfolding false in conv => whnf) <;> (repeat (first | exact True.intro | ((first | refine ⟨rfl, ?_⟩ | refine ar (by omega) (by omega) ?_ | refine ar8 (by omega) (by omega) ?_ | refine ix (by omega) ?_ | refine IdxVC.mk 0 rfl (by omega) ?_ | refine BytesVC.mk _ rfl ?_ | refine DivVC.mk (by omega) (by omega) ?_); set_option smartUnfolding false in conv => whnf))))
        rintro x P9 H' - ⟨rfl, rfl, rfl⟩
        ((set_option smartUnfolding false in conv => whnf) <;> (repeat (first | exact True.intro | ((first | refine ⟨rfl, ?_⟩ | refine ar (by omega) (by omega) ?_ | refine ar8 (by omega) (by omega) ?_ | refine ix (by omega) ?_ | refine IdxVC.mk 0 rfl (by omega) ?_ | refine BytesVC.mk _ rfl ?_ | refine DivVC.mk (by omega) (by omega) ?_); set_option smartUnfolding false in conv => whnf))))
        obtain ⟨y1, hy1⟩ : ∃ y : Pj, y = (-1 - (r : Int), zs[k].2.1, zs[k].2.2, zs[k].1.2) := ⟨_, rfl⟩
        have hy1e : jEnc y1 = wr (jEnc (toJ zs[k])) 0 [.v (.int .i64 (-1 - (r : Int)))] := by rw [hy1]; rfl
        refine .mk (toJ zs[k]) y1 hjk hy1e (by show 0 + 1 ≤ 2; omega) ?_
        ((set_option smartUnfolding false in conv => whnf) <;> (repeat (first | exact True.intro | ((first | refine ⟨rfl, ?_⟩ | refine ar (by omega) (by omega) ?_ | refine ar8 (by omega) (by omega) ?_ | refine ix (by omega) ?_ | refine IdxVC.mk 0 rfl (by omega) ?_ | refine BytesVC.mk _ rfl ?_ | refine DivVC.mk (by omega) (by omega) ?_); set_option smartUnfolding false in conv => whnf))))
        refine bxd (fun hf => ?_) (fun hf => ?_)
        · ((set_option smartUnfolding false in conv => whnf) <;> (repeat (first | exact True.intro | ((first | refine ⟨rfl, ?_⟩ | refine ar (by omega) (by omega) ?_ | refine ar8 (by omega) (by omega) ?_ | refine ix (by omega) ?_ | refine IdxVC.mk 0 rfl (by omega) ?_ | refine BytesVC.mk _ rfl ?_ | refine DivVC.mk (by omega) (by omega) ?_); set_option smartUnfolding false in conv => whnf))))
          refine call_con (N := []) (hpr _) ?_
          ((set_option smartUnfolding false in conv => whnf) <;> (repeat (first | exact True.intro | ((first | refine ⟨rfl, ?_⟩ | refine ar (by omega) (by omega) ?_ | refine ar8 (by omega) (by omega) ?_ | refine ix (by omega) ?_ | refine IdxVC.mk 0 rfl (by omega) ?_ | refine BytesVC.mk _ rfl ?_ | refine DivVC.mk (by omega) (by omega) ?_); set_option smartUnfolding false in conv => whnf))))
          rintro x P10 H' - ⟨rfl, rfl, rfl⟩
          ((set_option smartUnfolding false in conv => whnf) <;> (repeat (first | exact True.intro | ((first | refine ⟨rfl, ?_⟩ | refine ar (by omega) (by omega) ?_ | refine ar8 (by omega) (by omega) ?_ | refine ix (by omega) ?_ | refine IdxVC.mk 0 rfl (by omega) ?_ | refine BytesVC.mk _ rfl ?_ | refine DivVC.mk (by omega) (by omega) ?_); set_option smartUnfolding false in conv => whnf))))
          obtain ⟨y2, hy2⟩ : ∃ y : Pj, y = ((p : Int) + (r : Int), zs[k].2.1, zs[k].2.2, zs[k].1.2) := ⟨_, rfl⟩
          have hy2e : jEnc y2 = wr (jEnc y1) 0 [.v (.int .i64 ((p : Int) + (r : Int)))] := by rw [hy2, hy1]; rfl
          refine .mk y1 y2 (by show (List.set (zs.map toJ) (0 + k) y1)[0 + k]? = _; rw [List.getElem?_set_self (by omega)]; rfl) hy2e (by show 0 + 1 ≤ 2; omega) ?_
          ((set_option smartUnfolding false in conv => whnf) <;> (repeat (first | exact True.intro | ((first | refine ⟨rfl, ?_⟩ | refine ar (by omega) (by omega) ?_ | refine ar8 (by omega) (by omega) ?_ | refine ix (by omega) ?_ | refine IdxVC.mk 0 rfl (by omega) ?_ | refine BytesVC.mk _ rfl ?_ | refine DivVC.mk (by omega) (by omega) ?_); set_option smartUnfolding false in conv => whnf))))
          have hask : askJ p (((zs.map toJ).set (0 + k) y1).set (0 + k) y2) = (k, 4) := by
            rw [Nat.zero_add, List.set_set]
            exact ask_place p zs k hkl hw.nodup hw.fit y2 (.inr (by rw [hy2]; show (p : Int) ≤ (p : Int) + (r : Int); omega))
          have hcb := CommitBad_con P10 p zs.length co (((zs.map toJ).set (0 + k) y1).set (0 + k) y2) (by omega) (by simp) (by omega) hzl (by rw [hask]; show ((4 : Int)) ≠ 0; omega)
          rw [hask] at hcb
          refine call_con (N := [25]) hcb ?_
          ((set_option smartUnfolding false in conv => whnf) <;> (repeat (first | exact True.intro | ((first | refine ⟨rfl, ?_⟩ | refine ar (by omega) (by omega) ?_ | refine ar8 (by omega) (by omega) ?_ | refine ix (by omega) ?_ | refine IdxVC.mk 0 rfl (by omega) ?_ | refine BytesVC.mk _ rfl ?_ | refine DivVC.mk (by omega) (by omega) ?_); set_option smartUnfolding false in conv => whnf))))
          rintro x P20 H' - ⟨rfl, rfl, rfl⟩
          ((set_option smartUnfolding false in conv => whnf) <;> (repeat (first | exact True.intro | ((first | refine ⟨rfl, ?_⟩ | refine ar (by omega) (by omega) ?_ | refine ar8 (by omega) (by omega) ?_ | refine ix (by omega) ?_ | refine IdxVC.mk 0 rfl (by omega) ?_ | refine BytesVC.mk _ rfl ?_ | refine DivVC.mk (by omega) (by omega) ?_); set_option smartUnfolding false in conv => whnf))))
          refine bxd (fun _ => ?_) (fun h => absurd rfl h)
          ((set_option smartUnfolding false in conv => whnf) <;> (repeat (first | exact True.intro | ((first | refine ⟨rfl, ?_⟩ | refine ar (by omega) (by omega) ?_ | refine ar8 (by omega) (by omega) ?_ | refine ix (by omega) ?_ | refine IdxVC.mk 0 rfl (by omega) ?_ | refine BytesVC.mk _ rfl ?_ | refine DivVC.mk (by omega) (by omega) ?_); set_option smartUnfolding false in conv => whnf))))
          refine StrVC.mk true (beq_self_eq_true _) ?_
          ((set_option smartUnfolding false in conv => whnf) <;> (repeat (first | exact True.intro | ((first | refine ⟨rfl, ?_⟩ | refine ar (by omega) (by omega) ?_ | refine ar8 (by omega) (by omega) ?_ | refine ix (by omega) ?_ | refine IdxVC.mk 0 rfl (by omega) ?_ | refine BytesVC.mk _ rfl ?_ | refine DivVC.mk (by omega) (by omega) ?_); set_option smartUnfolding false in conv => whnf))))
          refine call_con (N := []) (code_con _ sCommit (k : Int) 4) ?_
          ((set_option smartUnfolding false in conv => whnf) <;> (repeat (first | exact True.intro | ((first | refine ⟨rfl, ?_⟩ | refine ar (by omega) (by omega) ?_ | refine ar8 (by omega) (by omega) ?_ | refine ix (by omega) ?_ | refine IdxVC.mk 0 rfl (by omega) ?_ | refine BytesVC.mk _ rfl ?_ | refine DivVC.mk (by omega) (by omega) ?_); set_option smartUnfolding false in conv => whnf))))
          rintro x P21 H' - ⟨rfl, rfl, rfl⟩
          ((set_option smartUnfolding false in conv => whnf) <;> (repeat (first | exact True.intro | ((first | refine ⟨rfl, ?_⟩ | refine ar (by omega) (by omega) ?_ | refine ar8 (by omega) (by omega) ?_ | refine ix (by omega) ?_ | refine IdxVC.mk 0 rfl (by omega) ?_ | refine BytesVC.mk _ rfl ?_ | refine DivVC.mk (by omega) (by omega) ?_); set_option smartUnfolding false in conv => whnf))))
          refine call_con (N := []) (Calls_con _ D) ?_
          ((set_option smartUnfolding false in conv => whnf) <;> (repeat (first | exact True.intro | ((first | refine ⟨rfl, ?_⟩ | refine ar (by omega) (by omega) ?_ | refine ar8 (by omega) (by omega) ?_ | refine ix (by omega) ?_ | refine IdxVC.mk 0 rfl (by omega) ?_ | refine BytesVC.mk _ rfl ?_ | refine DivVC.mk (by omega) (by omega) ?_); set_option smartUnfolding false in conv => whnf))))
          rintro x P22 H' - ⟨rfl, rfl, rfl⟩
          ((set_option smartUnfolding false in conv => whnf) <;> (repeat (first | exact True.intro | ((first | refine ⟨rfl, ?_⟩ | refine ar (by omega) (by omega) ?_ | refine ar8 (by omega) (by omega) ?_ | refine ix (by omega) ?_ | refine IdxVC.mk 0 rfl (by omega) ?_ | refine BytesVC.mk _ rfl ?_ | refine DivVC.mk (by omega) (by omega) ?_); set_option smartUnfolding false in conv => whnf))))
          refine bxd (fun _ => ?_) (fun h => absurd rfl h)
          ((set_option smartUnfolding false in conv => whnf) <;> (repeat (first | exact True.intro | ((first | refine ⟨rfl, ?_⟩ | refine ar (by omega) (by omega) ?_ | refine ar8 (by omega) (by omega) ?_ | refine ix (by omega) ?_ | refine IdxVC.mk 0 rfl (by omega) ?_ | refine BytesVC.mk _ rfl ?_ | refine DivVC.mk (by omega) (by omega) ?_); set_option smartUnfolding false in conv => whnf))))
          refine call_con (N := []) (clean_con _ p more pc1 L hD.pages.len hD.pages.each hp hmo D hD.pend (hD.img hn)) ?_
          ((set_option smartUnfolding false in conv => whnf) <;> (repeat (first | exact True.intro | ((first | refine ⟨rfl, ?_⟩ | refine ar (by omega) (by omega) ?_ | refine ar8 (by omega) (by omega) ?_ | refine ix (by omega) ?_ | refine IdxVC.mk 0 rfl (by omega) ?_ | refine BytesVC.mk _ rfl ?_ | refine DivVC.mk (by omega) (by omega) ?_); set_option smartUnfolding false in conv => whnf))))
          rintro x P23 H' - ⟨rfl, rfl, rfl⟩
          ((set_option smartUnfolding false in conv => whnf) <;> (repeat (first | exact True.intro | ((first | refine ⟨rfl, ?_⟩ | refine ar (by omega) (by omega) ?_ | refine ar8 (by omega) (by omega) ?_ | refine ix (by omega) ?_ | refine IdxVC.mk 0 rfl (by omega) ?_ | refine BytesVC.mk _ rfl ?_ | refine DivVC.mk (by omega) (by omega) ?_); set_option smartUnfolding false in conv => whnf))))
          refine call_con (N := []) (stands_con _ p more pc1 pc1 L hD.pages.len hp D hD.pend (fun k => L.getD k []) (fun k hk => hD.page (by omega) hk)) ?_
          ((set_option smartUnfolding false in conv => whnf) <;> (repeat (first | exact True.intro | ((first | refine ⟨rfl, ?_⟩ | refine ar (by omega) (by omega) ?_ | refine ar8 (by omega) (by omega) ?_ | refine ix (by omega) ?_ | refine IdxVC.mk 0 rfl (by omega) ?_ | refine BytesVC.mk _ rfl ?_ | refine DivVC.mk (by omega) (by omega) ?_); set_option smartUnfolding false in conv => whnf))))
          rintro x P24 H' - ⟨rfl, rfl, rfl⟩
          rw [rm_stands hD]
          ((set_option smartUnfolding false in conv => whnf) <;> (repeat (first | exact True.intro | ((first | refine ⟨rfl, ?_⟩ | refine ar (by omega) (by omega) ?_ | refine ar8 (by omega) (by omega) ?_ | refine ix (by omega) ?_ | refine IdxVC.mk 0 rfl (by omega) ?_ | refine BytesVC.mk _ rfl ?_ | refine DivVC.mk (by omega) (by omega) ?_); set_option smartUnfolding false in conv => whnf))))
        · ((set_option smartUnfolding false in conv => whnf) <;> (repeat (first | exact True.intro | ((first | refine ⟨rfl, ?_⟩ | refine ar (by omega) (by omega) ?_ | refine ar8 (by omega) (by omega) ?_ | refine ix (by omega) ?_ | refine IdxVC.mk 0 rfl (by omega) ?_ | refine BytesVC.mk _ rfl ?_ | refine DivVC.mk (by omega) (by omega) ?_); set_option smartUnfolding false in conv => whnf))))
          have hask : askJ p ((zs.map toJ).set (0 + k) y1) = (k, 4) := by
            rw [Nat.zero_add]
            exact ask_place p zs k hkl hw.nodup hw.fit y1 (.inl (by rw [hy1]; show -1 - (r : Int) < 0; omega))
          have hcb := CommitBad_con P9 p zs.length co ((zs.map toJ).set (0 + k) y1) (by omega) (by simp) (by omega) hzl (by rw [hask]; show ((4 : Int)) ≠ 0; omega)
          rw [hask] at hcb
          refine call_con (N := [25]) hcb ?_
          ((set_option smartUnfolding false in conv => whnf) <;> (repeat (first | exact True.intro | ((first | refine ⟨rfl, ?_⟩ | refine ar (by omega) (by omega) ?_ | refine ar8 (by omega) (by omega) ?_ | refine ix (by omega) ?_ | refine IdxVC.mk 0 rfl (by omega) ?_ | refine BytesVC.mk _ rfl ?_ | refine DivVC.mk (by omega) (by omega) ?_); set_option smartUnfolding false in conv => whnf))))
          rintro x P20 H' - ⟨rfl, rfl, rfl⟩
          ((set_option smartUnfolding false in conv => whnf) <;> (repeat (first | exact True.intro | ((first | refine ⟨rfl, ?_⟩ | refine ar (by omega) (by omega) ?_ | refine ar8 (by omega) (by omega) ?_ | refine ix (by omega) ?_ | refine IdxVC.mk 0 rfl (by omega) ?_ | refine BytesVC.mk _ rfl ?_ | refine DivVC.mk (by omega) (by omega) ?_); set_option smartUnfolding false in conv => whnf))))
          refine bxd (fun _ => ?_) (fun h => absurd rfl h)
          ((set_option smartUnfolding false in conv => whnf) <;> (repeat (first | exact True.intro | ((first | refine ⟨rfl, ?_⟩ | refine ar (by omega) (by omega) ?_ | refine ar8 (by omega) (by omega) ?_ | refine ix (by omega) ?_ | refine IdxVC.mk 0 rfl (by omega) ?_ | refine BytesVC.mk _ rfl ?_ | refine DivVC.mk (by omega) (by omega) ?_); set_option smartUnfolding false in conv => whnf))))
          refine StrVC.mk true (beq_self_eq_true _) ?_
          ((set_option smartUnfolding false in conv => whnf) <;> (repeat (first | exact True.intro | ((first | refine ⟨rfl, ?_⟩ | refine ar (by omega) (by omega) ?_ | refine ar8 (by omega) (by omega) ?_ | refine ix (by omega) ?_ | refine IdxVC.mk 0 rfl (by omega) ?_ | refine BytesVC.mk _ rfl ?_ | refine DivVC.mk (by omega) (by omega) ?_); set_option smartUnfolding false in conv => whnf))))
          refine call_con (N := []) (code_con _ sCommit (k : Int) 4) ?_
          ((set_option smartUnfolding false in conv => whnf) <;> (repeat (first | exact True.intro | ((first | refine ⟨rfl, ?_⟩ | refine ar (by omega) (by omega) ?_ | refine ar8 (by omega) (by omega) ?_ | refine ix (by omega) ?_ | refine IdxVC.mk 0 rfl (by omega) ?_ | refine BytesVC.mk _ rfl ?_ | refine DivVC.mk (by omega) (by omega) ?_); set_option smartUnfolding false in conv => whnf))))
          rintro x P21 H' - ⟨rfl, rfl, rfl⟩
          ((set_option smartUnfolding false in conv => whnf) <;> (repeat (first | exact True.intro | ((first | refine ⟨rfl, ?_⟩ | refine ar (by omega) (by omega) ?_ | refine ar8 (by omega) (by omega) ?_ | refine ix (by omega) ?_ | refine IdxVC.mk 0 rfl (by omega) ?_ | refine BytesVC.mk _ rfl ?_ | refine DivVC.mk (by omega) (by omega) ?_); set_option smartUnfolding false in conv => whnf))))
          refine call_con (N := []) (Calls_con _ D) ?_
          ((set_option smartUnfolding false in conv => whnf) <;> (repeat (first | exact True.intro | ((first | refine ⟨rfl, ?_⟩ | refine ar (by omega) (by omega) ?_ | refine ar8 (by omega) (by omega) ?_ | refine ix (by omega) ?_ | refine IdxVC.mk 0 rfl (by omega) ?_ | refine BytesVC.mk _ rfl ?_ | refine DivVC.mk (by omega) (by omega) ?_); set_option smartUnfolding false in conv => whnf))))
          rintro x P22 H' - ⟨rfl, rfl, rfl⟩
          ((set_option smartUnfolding false in conv => whnf) <;> (repeat (first | exact True.intro | ((first | refine ⟨rfl, ?_⟩ | refine ar (by omega) (by omega) ?_ | refine ar8 (by omega) (by omega) ?_ | refine ix (by omega) ?_ | refine IdxVC.mk 0 rfl (by omega) ?_ | refine BytesVC.mk _ rfl ?_ | refine DivVC.mk (by omega) (by omega) ?_); set_option smartUnfolding false in conv => whnf))))
          refine bxd (fun _ => ?_) (fun h => absurd rfl h)
          ((set_option smartUnfolding false in conv => whnf) <;> (repeat (first | exact True.intro | ((first | refine ⟨rfl, ?_⟩ | refine ar (by omega) (by omega) ?_ | refine ar8 (by omega) (by omega) ?_ | refine ix (by omega) ?_ | refine IdxVC.mk 0 rfl (by omega) ?_ | refine BytesVC.mk _ rfl ?_ | refine DivVC.mk (by omega) (by omega) ?_); set_option smartUnfolding false in conv => whnf))))
          refine call_con (N := []) (clean_con _ p more pc1 L hD.pages.len hD.pages.each hp hmo D hD.pend (hD.img hn)) ?_
          ((set_option smartUnfolding false in conv => whnf) <;> (repeat (first | exact True.intro | ((first | refine ⟨rfl, ?_⟩ | refine ar (by omega) (by omega) ?_ | refine ar8 (by omega) (by omega) ?_ | refine ix (by omega) ?_ | refine IdxVC.mk 0 rfl (by omega) ?_ | refine BytesVC.mk _ rfl ?_ | refine DivVC.mk (by omega) (by omega) ?_); set_option smartUnfolding false in conv => whnf))))
          rintro x P23 H' - ⟨rfl, rfl, rfl⟩
          ((set_option smartUnfolding false in conv => whnf) <;> (repeat (first | exact True.intro | ((first | refine ⟨rfl, ?_⟩ | refine ar (by omega) (by omega) ?_ | refine ar8 (by omega) (by omega) ?_ | refine ix (by omega) ?_ | refine IdxVC.mk 0 rfl (by omega) ?_ | refine BytesVC.mk _ rfl ?_ | refine DivVC.mk (by omega) (by omega) ?_); set_option smartUnfolding false in conv => whnf))))
          refine call_con (N := []) (stands_con _ p more pc1 pc1 L hD.pages.len hp D hD.pend (fun k => L.getD k []) (fun k hk => hD.page (by omega) hk)) ?_
          ((set_option smartUnfolding false in conv => whnf) <;> (repeat (first | exact True.intro | ((first | refine ⟨rfl, ?_⟩ | refine ar (by omega) (by omega) ?_ | refine ar8 (by omega) (by omega) ?_ | refine ix (by omega) ?_ | refine IdxVC.mk 0 rfl (by omega) ?_ | refine BytesVC.mk _ rfl ?_ | refine DivVC.mk (by omega) (by omega) ?_); set_option smartUnfolding false in conv => whnf))))
          rintro x P24 H' - ⟨rfl, rfl, rfl⟩
          rw [rm_stands hD]
          ((set_option smartUnfolding false in conv => whnf) <;> (repeat (first | exact True.intro | ((first | refine ⟨rfl, ?_⟩ | refine ar (by omega) (by omega) ?_ | refine ar8 (by omega) (by omega) ?_ | refine ix (by omega) ?_ | refine IdxVC.mk 0 rfl (by omega) ?_ | refine BytesVC.mk _ rfl ?_ | refine DivVC.mk (by omega) (by omega) ?_); set_option smartUnfolding false in conv => whnf))))
      · ((set_option smartUnfolding false in conv => whnf) <;> (repeat (first | exact True.intro | ((first | refine ⟨rfl, ?_⟩ | refine ar (by omega) (by omega) ?_ | refine ar8 (by omega) (by omega) ?_ | refine ix (by omega) ?_ | refine IdxVC.mk 0 rfl (by omega) ?_ | refine BytesVC.mk _ rfl ?_ | refine DivVC.mk (by omega) (by omega) ?_); set_option smartUnfolding false in conv => whnf))))
        refine bxd (fun hq1 => ?_) (fun hq1 => ?_)
        · ((set_option smartUnfolding false in conv => whnf) <;> (repeat (first | exact True.intro | ((first | refine ⟨rfl, ?_⟩ | refine ar (by omega) (by omega) ?_ | refine ar8 (by omega) (by omega) ?_ | refine ix (by omega) ?_ | refine IdxVC.mk 0 rfl (by omega) ?_ | refine BytesVC.mk _ rfl ?_ | refine DivVC.mk (by omega) (by omega) ?_); set_option smartUnfolding false in conv => whnf))))
          obtain ⟨r, hr⟩ : ∃ r : Nat, nu % 1024 = r := ⟨(nu % 1024).toNat, by have := Int.emod_nonneg nu (show (1024 : Int) ≠ 0 by omega); omega⟩
          have hr1 : r < 1024 := by have := Int.emod_lt_of_pos nu (show (0 : Int) < 1024 by omega); omega
          have hpr : ∀ P, _ := fun P => pick_con P nu 1024 (by omega) (by omega) n1 n2
          rw [hr] at hpr
          have hzf := hw.fit zs[k] (List.getElem_mem hkl)
          refine .mk (toJ zs[k]) hjk ?_
          ((set_option smartUnfolding false in conv => whnf) <;> (repeat (first | exact True.intro | ((first | refine ⟨rfl, ?_⟩ | refine ar (by omega) (by omega) ?_ | refine ar8 (by omega) (by omega) ?_ | refine ix (by omega) ?_ | refine IdxVC.mk 0 rfl (by omega) ?_ | refine BytesVC.mk _ rfl ?_ | refine DivVC.mk (by omega) (by omega) ?_); set_option smartUnfolding false in conv => whnf))))
          refine call_con (N := []) (hpr _) ?_
          ((set_option smartUnfolding false in conv => whnf) <;> (repeat (first | exact True.intro | ((first | refine ⟨rfl, ?_⟩ | refine ar (by omega) (by omega) ?_ | refine ar8 (by omega) (by omega) ?_ | refine ix (by omega) ?_ | refine IdxVC.mk 0 rfl (by omega) ?_ | refine BytesVC.mk _ rfl ?_ | refine DivVC.mk (by omega) (by omega) ?_); set_option smartUnfolding false in conv => whnf))))
          rintro x P9 H' - ⟨rfl, rfl, rfl⟩
          ((set_option smartUnfolding false in conv => whnf) <;> (repeat (first | exact True.intro | ((first | refine ⟨rfl, ?_⟩ | refine ar (by omega) (by omega) ?_ | refine ar8 (by omega) (by omega) ?_ | refine ix (by omega) ?_ | refine IdxVC.mk 0 rfl (by omega) ?_ | refine BytesVC.mk _ rfl ?_ | refine DivVC.mk (by omega) (by omega) ?_); set_option smartUnfolding false in conv => whnf))))
          refine And.intro ?_ ?_
          · ((set_option smartUnfolding false in conv => whnf) <;> (repeat (first | exact True.intro | ((first | refine ⟨rfl, ?_⟩ | refine ar (by omega) (by omega) ?_ | refine ar8 (by omega) (by omega) ?_ | refine ix (by omega) ?_ | refine IdxVC.mk 0 rfl (by omega) ?_ | refine BytesVC.mk _ rfl ?_ | refine DivVC.mk (by omega) (by omega) ?_); set_option smartUnfolding false in conv => whnf))))
            refine .mk (toJ zs[k]) hjk ?_
            ((set_option smartUnfolding false in conv => whnf) <;> (repeat (first | exact True.intro | ((first | refine ⟨rfl, ?_⟩ | refine ar (by omega) (by omega) ?_ | refine ar8 (by omega) (by omega) ?_ | refine ix (by omega) ?_ | refine IdxVC.mk 0 rfl (by omega) ?_ | refine BytesVC.mk _ rfl ?_ | refine DivVC.mk (by omega) (by omega) ?_); set_option smartUnfolding false in conv => whnf))))
          ((set_option smartUnfolding false in conv => whnf) <;> (repeat (first | exact True.intro | ((first | refine ⟨rfl, ?_⟩ | refine ar (by omega) (by omega) ?_ | refine ar8 (by omega) (by omega) ?_ | refine ix (by omega) ?_ | refine IdxVC.mk 0 rfl (by omega) ?_ | refine BytesVC.mk _ rfl ?_ | refine DivVC.mk (by omega) (by omega) ?_); set_option smartUnfolding false in conv => whnf))))
          refine .mk 0 r rfl rfl (by omega) (by show r ≤ zs[k].1.2.length; omega) ?_
          ((set_option smartUnfolding false in conv => whnf) <;> (repeat (first | exact True.intro | ((first | refine ⟨rfl, ?_⟩ | refine ar (by omega) (by omega) ?_ | refine ar8 (by omega) (by omega) ?_ | refine ix (by omega) ?_ | refine IdxVC.mk 0 rfl (by omega) ?_ | refine BytesVC.mk _ rfl ?_ | refine DivVC.mk (by omega) (by omega) ?_); set_option smartUnfolding false in conv => whnf))))
          obtain ⟨y1, hy1⟩ : ∃ y : Pj, y = ((zs[k].1.1 : Int), (if zs[k].2.2 = 0 then zs[k].2.1 else zs[k].2.1.map (·.add 0)), zs[k].2.2 - 0, (zs[k].1.2.take r).drop 0) := ⟨_, rfl⟩
          refine .mk (toJ zs[k]) y1 hjk (by rw [hy1]; rfl) (by show 1 + 1 ≤ 2; omega) ?_
          ((set_option smartUnfolding false in conv => whnf) <;> (repeat (first | exact True.intro | ((first | refine ⟨rfl, ?_⟩ | refine ar (by omega) (by omega) ?_ | refine ar8 (by omega) (by omega) ?_ | refine ix (by omega) ?_ | refine IdxVC.mk 0 rfl (by omega) ?_ | refine BytesVC.mk _ rfl ?_ | refine DivVC.mk (by omega) (by omega) ?_); set_option smartUnfolding false in conv => whnf))))
          have hask : askJ p ((zs.map toJ).set (0 + k) y1) = (k, 82) := by
            rw [Nat.zero_add]
            exact ask_data p zs k hkl hw.nodup hw.fit y1 (by rw [hy1]; show 0 ≤ (zs[k].1.1 : Int) ∧ (zs[k].1.1 : Int) < p; omega) (by rw [hy1]; show ((zs[k].1.2.take r).drop 0).length ≠ 1024; rw [List.length_drop, List.length_take]; omega)
          have hcb := CommitBad_con P9 p zs.length co ((zs.map toJ).set (0 + k) y1) (by omega) (by simp) (by omega) hzl (by rw [hask]; show ((82 : Int)) ≠ 0; omega)
          rw [hask] at hcb
          refine call_con (N := [25]) hcb ?_
          ((set_option smartUnfolding false in conv => whnf) <;> (repeat (first | exact True.intro | ((first | refine ⟨rfl, ?_⟩ | refine ar (by omega) (by omega) ?_ | refine ar8 (by omega) (by omega) ?_ | refine ix (by omega) ?_ | refine IdxVC.mk 0 rfl (by omega) ?_ | refine BytesVC.mk _ rfl ?_ | refine DivVC.mk (by omega) (by omega) ?_); set_option smartUnfolding false in conv => whnf))))
          rintro x P20 H' - ⟨rfl, rfl, rfl⟩
          ((set_option smartUnfolding false in conv => whnf) <;> (repeat (first | exact True.intro | ((first | refine ⟨rfl, ?_⟩ | refine ar (by omega) (by omega) ?_ | refine ar8 (by omega) (by omega) ?_ | refine ix (by omega) ?_ | refine IdxVC.mk 0 rfl (by omega) ?_ | refine BytesVC.mk _ rfl ?_ | refine DivVC.mk (by omega) (by omega) ?_); set_option smartUnfolding false in conv => whnf))))
          refine bxd (fun _ => ?_) (fun h => absurd rfl h)
          ((set_option smartUnfolding false in conv => whnf) <;> (repeat (first | exact True.intro | ((first | refine ⟨rfl, ?_⟩ | refine ar (by omega) (by omega) ?_ | refine ar8 (by omega) (by omega) ?_ | refine ix (by omega) ?_ | refine IdxVC.mk 0 rfl (by omega) ?_ | refine BytesVC.mk _ rfl ?_ | refine DivVC.mk (by omega) (by omega) ?_); set_option smartUnfolding false in conv => whnf))))
          refine StrVC.mk true (beq_self_eq_true _) ?_
          ((set_option smartUnfolding false in conv => whnf) <;> (repeat (first | exact True.intro | ((first | refine ⟨rfl, ?_⟩ | refine ar (by omega) (by omega) ?_ | refine ar8 (by omega) (by omega) ?_ | refine ix (by omega) ?_ | refine IdxVC.mk 0 rfl (by omega) ?_ | refine BytesVC.mk _ rfl ?_ | refine DivVC.mk (by omega) (by omega) ?_); set_option smartUnfolding false in conv => whnf))))
          refine call_con (N := []) (code_con _ sCommit (k : Int) 82) ?_
          ((set_option smartUnfolding false in conv => whnf) <;> (repeat (first | exact True.intro | ((first | refine ⟨rfl, ?_⟩ | refine ar (by omega) (by omega) ?_ | refine ar8 (by omega) (by omega) ?_ | refine ix (by omega) ?_ | refine IdxVC.mk 0 rfl (by omega) ?_ | refine BytesVC.mk _ rfl ?_ | refine DivVC.mk (by omega) (by omega) ?_); set_option smartUnfolding false in conv => whnf))))
          rintro x P21 H' - ⟨rfl, rfl, rfl⟩
          ((set_option smartUnfolding false in conv => whnf) <;> (repeat (first | exact True.intro | ((first | refine ⟨rfl, ?_⟩ | refine ar (by omega) (by omega) ?_ | refine ar8 (by omega) (by omega) ?_ | refine ix (by omega) ?_ | refine IdxVC.mk 0 rfl (by omega) ?_ | refine BytesVC.mk _ rfl ?_ | refine DivVC.mk (by omega) (by omega) ?_); set_option smartUnfolding false in conv => whnf))))
          refine call_con (N := []) (Calls_con _ D) ?_
          ((set_option smartUnfolding false in conv => whnf) <;> (repeat (first | exact True.intro | ((first | refine ⟨rfl, ?_⟩ | refine ar (by omega) (by omega) ?_ | refine ar8 (by omega) (by omega) ?_ | refine ix (by omega) ?_ | refine IdxVC.mk 0 rfl (by omega) ?_ | refine BytesVC.mk _ rfl ?_ | refine DivVC.mk (by omega) (by omega) ?_); set_option smartUnfolding false in conv => whnf))))
          rintro x P22 H' - ⟨rfl, rfl, rfl⟩
          ((set_option smartUnfolding false in conv => whnf) <;> (repeat (first | exact True.intro | ((first | refine ⟨rfl, ?_⟩ | refine ar (by omega) (by omega) ?_ | refine ar8 (by omega) (by omega) ?_ | refine ix (by omega) ?_ | refine IdxVC.mk 0 rfl (by omega) ?_ | refine BytesVC.mk _ rfl ?_ | refine DivVC.mk (by omega) (by omega) ?_); set_option smartUnfolding false in conv => whnf))))
          refine bxd (fun _ => ?_) (fun h => absurd rfl h)
          ((set_option smartUnfolding false in conv => whnf) <;> (repeat (first | exact True.intro | ((first | refine ⟨rfl, ?_⟩ | refine ar (by omega) (by omega) ?_ | refine ar8 (by omega) (by omega) ?_ | refine ix (by omega) ?_ | refine IdxVC.mk 0 rfl (by omega) ?_ | refine BytesVC.mk _ rfl ?_ | refine DivVC.mk (by omega) (by omega) ?_); set_option smartUnfolding false in conv => whnf))))
          refine call_con (N := []) (clean_con _ p more pc1 L hD.pages.len hD.pages.each hp hmo D hD.pend (hD.img hn)) ?_
          ((set_option smartUnfolding false in conv => whnf) <;> (repeat (first | exact True.intro | ((first | refine ⟨rfl, ?_⟩ | refine ar (by omega) (by omega) ?_ | refine ar8 (by omega) (by omega) ?_ | refine ix (by omega) ?_ | refine IdxVC.mk 0 rfl (by omega) ?_ | refine BytesVC.mk _ rfl ?_ | refine DivVC.mk (by omega) (by omega) ?_); set_option smartUnfolding false in conv => whnf))))
          rintro x P23 H' - ⟨rfl, rfl, rfl⟩
          ((set_option smartUnfolding false in conv => whnf) <;> (repeat (first | exact True.intro | ((first | refine ⟨rfl, ?_⟩ | refine ar (by omega) (by omega) ?_ | refine ar8 (by omega) (by omega) ?_ | refine ix (by omega) ?_ | refine IdxVC.mk 0 rfl (by omega) ?_ | refine BytesVC.mk _ rfl ?_ | refine DivVC.mk (by omega) (by omega) ?_); set_option smartUnfolding false in conv => whnf))))
          refine call_con (N := []) (stands_con _ p more pc1 pc1 L hD.pages.len hp D hD.pend (fun k => L.getD k []) (fun k hk => hD.page (by omega) hk)) ?_
          ((set_option smartUnfolding false in conv => whnf) <;> (repeat (first | exact True.intro | ((first | refine ⟨rfl, ?_⟩ | refine ar (by omega) (by omega) ?_ | refine ar8 (by omega) (by omega) ?_ | refine ix (by omega) ?_ | refine IdxVC.mk 0 rfl (by omega) ?_ | refine BytesVC.mk _ rfl ?_ | refine DivVC.mk (by omega) (by omega) ?_); set_option smartUnfolding false in conv => whnf))))
          rintro x P24 H' - ⟨rfl, rfl, rfl⟩
          rw [rm_stands hD]
          ((set_option smartUnfolding false in conv => whnf) <;> (repeat (first | exact True.intro | ((first | refine ⟨rfl, ?_⟩ | refine ar (by omega) (by omega) ?_ | refine ar8 (by omega) (by omega) ?_ | refine ix (by omega) ?_ | refine IdxVC.mk 0 rfl (by omega) ?_ | refine BytesVC.mk _ rfl ?_ | refine DivVC.mk (by omega) (by omega) ?_); set_option smartUnfolding false in conv => whnf))))
        · have hq2 : cut % 3 = 2 := by have := Int.emod_nonneg cut (show (3 : Int) ≠ 0 by omega); have := Int.emod_lt_of_pos cut (show (0 : Int) < 3 by omega); omega
          ((set_option smartUnfolding false in conv => whnf) <;> (repeat (first | exact True.intro | ((first | refine ⟨rfl, ?_⟩ | refine ar (by omega) (by omega) ?_ | refine ar8 (by omega) (by omega) ?_ | refine ix (by omega) ?_ | refine IdxVC.mk 0 rfl (by omega) ?_ | refine BytesVC.mk _ rfl ?_ | refine DivVC.mk (by omega) (by omega) ?_); set_option smartUnfolding false in conv => whnf))))
          refine bxd (fun hk0 => ?_) (fun hk0 => ?_)
          · ((set_option smartUnfolding false in conv => whnf) <;> (repeat (first | exact True.intro | ((first | refine ⟨rfl, ?_⟩ | refine ar (by omega) (by omega) ?_ | refine ar8 (by omega) (by omega) ?_ | refine ix (by omega) ?_ | refine IdxVC.mk 0 rfl (by omega) ?_ | refine BytesVC.mk _ rfl ?_ | refine DivVC.mk (by omega) (by omega) ?_); set_option smartUnfolding false in conv => whnf))))
          · have hk0 : 0 < k := by omega
            obtain ⟨j, hj⟩ : ∃ j : Nat, nu % (k : Int) = j := ⟨(nu % (k : Int)).toNat, by have := Int.emod_nonneg nu (show (k : Int) ≠ 0 by omega); omega⟩
            have hjk2 : j < k := by have := Int.emod_lt_of_pos nu (show (0 : Int) < k by omega); omega
            have hjl : j < zs.length := by omega
            have hjj : (zs.map toJ)[0 + j]? = some (toJ zs[j]) := by rw [Nat.zero_add, List.getElem?_map, List.getElem?_eq_getElem hjl]; rfl
            have hpr : ∀ P, _ := fun P => pick_con P nu (k : Int) (by omega) (by omega) n1 n2
            rw [hj] at hpr
            ((set_option smartUnfolding false in conv => whnf) <;> (repeat (first | exact True.intro | ((first | refine ⟨rfl, ?_⟩ | refine ar (by omega) (by omega) ?_ | refine ar8 (by omega) (by omega) ?_ | refine ix (by omega) ?_ | refine IdxVC.mk 0 rfl (by omega) ?_ | refine BytesVC.mk _ rfl ?_ | refine DivVC.mk (by omega) (by omega) ?_); set_option smartUnfolding false in conv => whnf))))
            refine call_con (N := []) (hpr _) ?_
            ((set_option smartUnfolding false in conv => whnf) <;> (repeat (first | exact True.intro | ((first | refine ⟨rfl, ?_⟩ | refine ar (by omega) (by omega) ?_ | refine ar8 (by omega) (by omega) ?_ | refine ix (by omega) ?_ | refine IdxVC.mk 0 rfl (by omega) ?_ | refine BytesVC.mk _ rfl ?_ | refine DivVC.mk (by omega) (by omega) ?_); set_option smartUnfolding false in conv => whnf))))
            rintro x P9 H' - ⟨rfl, rfl, rfl⟩
            ((set_option smartUnfolding false in conv => whnf) <;> (repeat (first | exact True.intro | ((first | refine ⟨rfl, ?_⟩ | refine ar (by omega) (by omega) ?_ | refine ar8 (by omega) (by omega) ?_ | refine ix (by omega) ?_ | refine IdxVC.mk 0 rfl (by omega) ?_ | refine BytesVC.mk _ rfl ?_ | refine DivVC.mk (by omega) (by omega) ?_); set_option smartUnfolding false in conv => whnf))))
            refine .mk (toJ zs[j]) hjj ?_
            ((set_option smartUnfolding false in conv => whnf) <;> (repeat (first | exact True.intro | ((first | refine ⟨rfl, ?_⟩ | refine ar (by omega) (by omega) ?_ | refine ar8 (by omega) (by omega) ?_ | refine ix (by omega) ?_ | refine IdxVC.mk 0 rfl (by omega) ?_ | refine BytesVC.mk _ rfl ?_ | refine DivVC.mk (by omega) (by omega) ?_); set_option smartUnfolding false in conv => whnf))))
            obtain ⟨y1, hy1⟩ : ∃ y : Pj, y = ((zs[j].1.1 : Int), zs[k].2.1, zs[k].2.2, zs[k].1.2) := ⟨_, rfl⟩
            refine .mk (toJ zs[k]) y1 hjk (by rw [hy1]; rfl) (by show 0 + 1 ≤ 2; omega) ?_
            ((set_option smartUnfolding false in conv => whnf) <;> (repeat (first | exact True.intro | ((first | refine ⟨rfl, ?_⟩ | refine ar (by omega) (by omega) ?_ | refine ar8 (by omega) (by omega) ?_ | refine ix (by omega) ?_ | refine IdxVC.mk 0 rfl (by omega) ?_ | refine BytesVC.mk _ rfl ?_ | refine DivVC.mk (by omega) (by omega) ?_); set_option smartUnfolding false in conv => whnf))))
            have hask : askJ p ((zs.map toJ).set (0 + k) y1) = (k, 91) := by
              rw [Nat.zero_add]
              exact ask_twice p zs k j hkl hjk2 hw.nodup hw.fit y1 (by rw [hy1]) (by rw [hy1]; exact (hw.fit zs[k] (List.getElem_mem hkl)).2)
            have hcb := CommitBad_con P9 p zs.length co ((zs.map toJ).set (0 + k) y1) (by omega) (by simp) (by omega) hzl (by rw [hask]; show ((91 : Int)) ≠ 0; omega)
            rw [hask] at hcb
            refine call_con (N := [25]) hcb ?_
            ((set_option smartUnfolding false in conv => whnf) <;> (repeat (first | exact True.intro | ((first | refine ⟨rfl, ?_⟩ | refine ar (by omega) (by omega) ?_ | refine ar8 (by omega) (by omega) ?_ | refine ix (by omega) ?_ | refine IdxVC.mk 0 rfl (by omega) ?_ | refine BytesVC.mk _ rfl ?_ | refine DivVC.mk (by omega) (by omega) ?_); set_option smartUnfolding false in conv => whnf))))
            rintro x P20 H' - ⟨rfl, rfl, rfl⟩
            ((set_option smartUnfolding false in conv => whnf) <;> (repeat (first | exact True.intro | ((first | refine ⟨rfl, ?_⟩ | refine ar (by omega) (by omega) ?_ | refine ar8 (by omega) (by omega) ?_ | refine ix (by omega) ?_ | refine IdxVC.mk 0 rfl (by omega) ?_ | refine BytesVC.mk _ rfl ?_ | refine DivVC.mk (by omega) (by omega) ?_); set_option smartUnfolding false in conv => whnf))))
            refine bxd (fun _ => ?_) (fun h => absurd rfl h)
            ((set_option smartUnfolding false in conv => whnf) <;> (repeat (first | exact True.intro | ((first | refine ⟨rfl, ?_⟩ | refine ar (by omega) (by omega) ?_ | refine ar8 (by omega) (by omega) ?_ | refine ix (by omega) ?_ | refine IdxVC.mk 0 rfl (by omega) ?_ | refine BytesVC.mk _ rfl ?_ | refine DivVC.mk (by omega) (by omega) ?_); set_option smartUnfolding false in conv => whnf))))
            refine StrVC.mk true (beq_self_eq_true _) ?_
            ((set_option smartUnfolding false in conv => whnf) <;> (repeat (first | exact True.intro | ((first | refine ⟨rfl, ?_⟩ | refine ar (by omega) (by omega) ?_ | refine ar8 (by omega) (by omega) ?_ | refine ix (by omega) ?_ | refine IdxVC.mk 0 rfl (by omega) ?_ | refine BytesVC.mk _ rfl ?_ | refine DivVC.mk (by omega) (by omega) ?_); set_option smartUnfolding false in conv => whnf))))
            refine call_con (N := []) (code_con _ sCommit (k : Int) 91) ?_
            ((set_option smartUnfolding false in conv => whnf) <;> (repeat (first | exact True.intro | ((first | refine ⟨rfl, ?_⟩ | refine ar (by omega) (by omega) ?_ | refine ar8 (by omega) (by omega) ?_ | refine ix (by omega) ?_ | refine IdxVC.mk 0 rfl (by omega) ?_ | refine BytesVC.mk _ rfl ?_ | refine DivVC.mk (by omega) (by omega) ?_); set_option smartUnfolding false in conv => whnf))))
            rintro x P21 H' - ⟨rfl, rfl, rfl⟩
            ((set_option smartUnfolding false in conv => whnf) <;> (repeat (first | exact True.intro | ((first | refine ⟨rfl, ?_⟩ | refine ar (by omega) (by omega) ?_ | refine ar8 (by omega) (by omega) ?_ | refine ix (by omega) ?_ | refine IdxVC.mk 0 rfl (by omega) ?_ | refine BytesVC.mk _ rfl ?_ | refine DivVC.mk (by omega) (by omega) ?_); set_option smartUnfolding false in conv => whnf))))
            refine call_con (N := []) (Calls_con _ D) ?_
            ((set_option smartUnfolding false in conv => whnf) <;> (repeat (first | exact True.intro | ((first | refine ⟨rfl, ?_⟩ | refine ar (by omega) (by omega) ?_ | refine ar8 (by omega) (by omega) ?_ | refine ix (by omega) ?_ | refine IdxVC.mk 0 rfl (by omega) ?_ | refine BytesVC.mk _ rfl ?_ | refine DivVC.mk (by omega) (by omega) ?_); set_option smartUnfolding false in conv => whnf))))
            rintro x P22 H' - ⟨rfl, rfl, rfl⟩
            ((set_option smartUnfolding false in conv => whnf) <;> (repeat (first | exact True.intro | ((first | refine ⟨rfl, ?_⟩ | refine ar (by omega) (by omega) ?_ | refine ar8 (by omega) (by omega) ?_ | refine ix (by omega) ?_ | refine IdxVC.mk 0 rfl (by omega) ?_ | refine BytesVC.mk _ rfl ?_ | refine DivVC.mk (by omega) (by omega) ?_); set_option smartUnfolding false in conv => whnf))))
            refine bxd (fun _ => ?_) (fun h => absurd rfl h)
            ((set_option smartUnfolding false in conv => whnf) <;> (repeat (first | exact True.intro | ((first | refine ⟨rfl, ?_⟩ | refine ar (by omega) (by omega) ?_ | refine ar8 (by omega) (by omega) ?_ | refine ix (by omega) ?_ | refine IdxVC.mk 0 rfl (by omega) ?_ | refine BytesVC.mk _ rfl ?_ | refine DivVC.mk (by omega) (by omega) ?_); set_option smartUnfolding false in conv => whnf))))
            refine call_con (N := []) (clean_con _ p more pc1 L hD.pages.len hD.pages.each hp hmo D hD.pend (hD.img hn)) ?_
            ((set_option smartUnfolding false in conv => whnf) <;> (repeat (first | exact True.intro | ((first | refine ⟨rfl, ?_⟩ | refine ar (by omega) (by omega) ?_ | refine ar8 (by omega) (by omega) ?_ | refine ix (by omega) ?_ | refine IdxVC.mk 0 rfl (by omega) ?_ | refine BytesVC.mk _ rfl ?_ | refine DivVC.mk (by omega) (by omega) ?_); set_option smartUnfolding false in conv => whnf))))
            rintro x P23 H' - ⟨rfl, rfl, rfl⟩
            ((set_option smartUnfolding false in conv => whnf) <;> (repeat (first | exact True.intro | ((first | refine ⟨rfl, ?_⟩ | refine ar (by omega) (by omega) ?_ | refine ar8 (by omega) (by omega) ?_ | refine ix (by omega) ?_ | refine IdxVC.mk 0 rfl (by omega) ?_ | refine BytesVC.mk _ rfl ?_ | refine DivVC.mk (by omega) (by omega) ?_); set_option smartUnfolding false in conv => whnf))))
            refine call_con (N := []) (stands_con _ p more pc1 pc1 L hD.pages.len hp D hD.pend (fun k => L.getD k []) (fun k hk => hD.page (by omega) hk)) ?_
            ((set_option smartUnfolding false in conv => whnf) <;> (repeat (first | exact True.intro | ((first | refine ⟨rfl, ?_⟩ | refine ar (by omega) (by omega) ?_ | refine ar8 (by omega) (by omega) ?_ | refine ix (by omega) ?_ | refine IdxVC.mk 0 rfl (by omega) ?_ | refine BytesVC.mk _ rfl ?_ | refine DivVC.mk (by omega) (by omega) ?_); set_option smartUnfolding false in conv => whnf))))
            rintro x P24 H' - ⟨rfl, rfl, rfl⟩
            rw [rm_stands hD]
            ((set_option smartUnfolding false in conv => whnf) <;> (repeat (first | exact True.intro | ((first | refine ⟨rfl, ?_⟩ | refine ar (by omega) (by omega) ?_ | refine ar8 (by omega) (by omega) ?_ | refine ix (by omega) ?_ | refine IdxVC.mk 0 rfl (by omega) ?_ | refine BytesVC.mk _ rfl ?_ | refine DivVC.mk (by omega) (by omega) ?_); set_option smartUnfolding false in conv => whnf))))
end Go.Proofs.YtpaebopmppbjbaaGreatDoor
