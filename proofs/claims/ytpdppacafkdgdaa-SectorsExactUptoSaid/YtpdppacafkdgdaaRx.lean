/- The reference device (letheref08), by the engine. -/
import Derived.Test.YtpdppacafkdgdaaSx
import Derived.Test.YtpdppacafkdgdaaRf1
set_option linter.unusedVariables false
set_option linter.unusedSimpArgs false
namespace Go.Eng
open Go Go.RowKit Go.Le
/-- a function that hands back a struct whose first cell is a row that nobody writes again: it is read only -/
theorem Con.freezeA {Pg : Program} {F : List Nat} {f : FuncId} {xs : List SV} {P : Hp} {pre : List Ck} {post : SV → Hp → List Ck → Prop} (h : Con Pg F f xs P pre post) (q : Cont → List SV → Hp → List Ck → Prop)
    (hp : ∀ x P' H', post x P' H' → ∃ n e cap c rs r, x = .agg (.sl n c.s 0 c.l.length cap :: rs) ∧ H' = .row n e cap c :: r ∧ (∀ v ∈ Cont.vals c, v.oneCell' = true) ∧ q c rs P' r) :
    Con Pg F f xs P pre fun x P'' H'' => ∃ a cap c rs P', x = .agg (.rs a cap c :: rs) ∧ Hp.le P' P'' ∧ q c rs P' H'' := by
  refine ⟨h.1, fun ρ wb w R hM ho => (h.2 ρ wb w R hM ho).mono ?_⟩
  rintro e w' ⟨ρ', x, P', H', h1, rfl, h3, hM', h5, h6⟩
  obtain ⟨n, e, cap, c, rs, r, rfl, rfl, hone, h7⟩ := hp _ _ _ h6
  have hm : Mem wb w' (Le.row e c.s (ρ' n) c.l.length cap (Cont.vals c) * (own P' * (star ρ' r * R))) := hM'.mem.eq (by simp only [star]; show own P' * (Le.row e c.s (ρ' n) c.l.length cap _ * star ρ' r * R) = _; ac_rfl)
  have hok := hM'.ok
  obtain ⟨P'', p1, p2, p3⟩ := own_row hone hm
  simp only [SV.ok, okL] at h3
  refine ⟨ρ', .agg (.rs (ρ' n) cap c :: rs), P'', r, h1, ?_, ?_, ⟨p2, okC_mono p1 r hok.2⟩, fun k v hv => p1 k v (h5 k v hv), ρ' n, cap, c, rs, P', rfl, p1, h7⟩
  · simp only [SV.den, denL]
    congr 3
    cases ρ' n <;> simp [Addr.add]
  · simp only [SV.ok, okL]
    exact ⟨⟨p3, Cont.ok_mono p1 hok.1⟩, okL_mono p1 _ h3.2⟩
end Go.Eng
namespace Go.Proofs.Ytpdppacafkdgdaa
open Go Go.RowKit Go.Le Go.Eng
/-- the reference's device: where its image and its list of writes lie -/
abbrev rB (bc lc : Nat) (D : Dev) (ka : Option Addr) (kc : Nat) : Ck := .blk 300 95 [.sl 301 1 0 D.img.length bc, .sl 302 2 0 D.pend.length lc, .raw (.bool D.down), .raw (.int .i64 D.armed), .rs ka kc (keepC D.loss.keep), .raw (.int .i64 D.loss.torn), .raw (.int .i64 D.loss.off), .raw (.int .i64 D.calls)]
set_option maxRecDepth 100000 in
theorem RDown_con (P : Hp) (bc lc : Nat) (D : Dev) (ka : Option Addr) (kc : Nat) :
    Con Try.prog [0, 300, 301, 302] 52 [.ptr 300 0] P [rB bc lc D ka kc] fun x P' H' => x = .raw (.bool D.down) ∧ P' = P ∧ H' = [rB bc lc D ka kc] := by
  refine con_of_fun T_good (by kernel_rfl) Try.call52 Try.func52 (by kernel_rfl) (by show 1 ≤ _; decide +kernel) ?_
  ((set_option smartUnfolding false in conv => whnf) <;> (repeat (first | exact True.intro | ((first | refine ⟨rfl, ?_⟩ | refine ar (by omega) (by omega) ?_ | refine ar8 (by omega) (by omega) ?_ | refine ix (by omega) ?_ | refine IdxVC.mk 0 rfl (by omega) ?_ | refine BytesVC.mk _ rfl ?_ | refine DivVC.mk (by omega) (by omega) ?_ | refine RemVC.mk (by omega) (by omega) ?_ | refine GhVC.mk _ _ _ rfl ?_); set_option smartUnfolding false in conv => whnf))))
set_option maxRecDepth 100000 in
theorem RCalls_con (P : Hp) (bc lc : Nat) (D : Dev) (ka : Option Addr) (kc : Nat) :
    Con Try.prog [0, 300, 301, 302] 54 [.ptr 300 0] P [rB bc lc D ka kc] fun x P' H' => x = .raw (.int .i64 D.calls) ∧ P' = P ∧ H' = [rB bc lc D ka kc] := by
  refine con_of_fun T_good (by kernel_rfl) Try.call54 Try.func54 (by kernel_rfl) (by show 1 ≤ _; decide +kernel) ?_
  ((set_option smartUnfolding false in conv => whnf) <;> (repeat (first | exact True.intro | ((first | refine ⟨rfl, ?_⟩ | refine ar (by omega) (by omega) ?_ | refine ar8 (by omega) (by omega) ?_ | refine ix (by omega) ?_ | refine IdxVC.mk 0 rfl (by omega) ?_ | refine BytesVC.mk _ rfl ?_ | refine DivVC.mk (by omega) (by omega) ?_ | refine RemVC.mk (by omega) (by omega) ?_ | refine GhVC.mk _ _ _ rfl ?_); set_option smartUnfolding false in conv => whnf))))
set_option maxRecDepth 100000 in
theorem RSectors_con (P : Hp) (bc lc : Nat) (D : Dev) (ka : Option Addr) (kc : Nat) (hl : D.img.length ≤ 2097152) :
    Con Try.prog [0, 300, 301, 302] 51 [.ptr 300 0] P [rB bc lc D ka kc] fun x P' H' => x = .raw (.int .i64 (D.n : Int)) ∧ P' = P ∧ H' = [rB bc lc D ka kc] := by
  refine con_of_fun T_good (by kernel_rfl) Try.call51 Try.func51 (by kernel_rfl) (by show 1 ≤ _; decide +kernel) ?_
  ((set_option smartUnfolding false in conv => whnf) <;> (repeat (first | exact True.intro | ((first | refine ⟨rfl, ?_⟩ | refine ar (by omega) (by omega) ?_ | refine ar8 (by omega) (by omega) ?_ | refine ix (by omega) ?_ | refine IdxVC.mk 0 rfl (by omega) ?_ | refine BytesVC.mk _ rfl ?_ | refine DivVC.mk (by omega) (by omega) ?_ | refine RemVC.mk (by omega) (by omega) ?_ | refine GhVC.mk _ _ _ rfl ?_); set_option smartUnfolding false in conv => whnf))))
set_option maxRecDepth 100000 in
theorem RUp_con (P : Hp) (bc lc : Nat) (D : Dev) (ka : Option Addr) (kc : Nat) :
    Con Try.prog [0, 300, 301, 302] 66 [.ptr 300 0] P [rB bc lc D ka kc] fun x P' H' => x = .raw (.int .i64 0) ∧ P' = P ∧ H' = [rB bc lc D.up ka kc] := by
  refine con_of_fun T_good (by kernel_rfl) Try.call66 Try.func66 (by kernel_rfl) (by show 1 ≤ _; decide +kernel) ?_
  ((set_option smartUnfolding false in conv => whnf) <;> (repeat (first | exact True.intro | ((first | refine ⟨rfl, ?_⟩ | refine ar (by omega) (by omega) ?_ | refine ar8 (by omega) (by omega) ?_ | refine ix (by omega) ?_ | refine IdxVC.mk 0 rfl (by omega) ?_ | refine BytesVC.mk _ rfl ?_ | refine DivVC.mk (by omega) (by omega) ?_ | refine RemVC.mk (by omega) (by omega) ?_ | refine GhVC.mk _ _ _ rfl ?_); set_option smartUnfolding false in conv => whnf))))
  rfl
set_option maxRecDepth 100000 in
theorem Rfires_con (P : Hp) (bc lc : Nat) (D : Dev) (ka : Option Addr) (kc : Nat) (h0 : 0 ≤ D.calls) (h1 : D.calls ≤ 1000000000) (a0 : 0 ≤ D.armed) (a1 : D.armed ≤ 9223372036854775807) :
    Con Try.prog [0, 300, 301, 302] 61 [.ptr 300 0] P [rB bc lc D ka kc] fun x P' H' => x = .raw (.bool D.fires) ∧ P' = P ∧ H' = [rB bc lc D.count ka kc] := by
  have e1 : wrap64 (D.calls + 1) = D.calls + 1 := by unfold wrap64; omega
  refine con_of_fun T_good (by kernel_rfl) Try.call61 Try.func61 (by kernel_rfl) (by show 1 ≤ _; decide +kernel) ?_
  ((set_option smartUnfolding false in conv => whnf) <;> (repeat (first | exact True.intro | ((first | refine ⟨rfl, ?_⟩ | refine ar (by omega) (by omega) ?_ | refine ar8 (by omega) (by omega) ?_ | refine ix (by omega) ?_ | refine IdxVC.mk 0 rfl (by omega) ?_ | refine BytesVC.mk _ rfl ?_ | refine DivVC.mk (by omega) (by omega) ?_ | refine RemVC.mk (by omega) (by omega) ?_ | refine GhVC.mk _ _ _ rfl ?_); set_option smartUnfolding false in conv => whnf))))
  refine bxd (fun h => ?_) (fun h => ?_)
  · have ec : D.count = { D with calls := D.calls + 1, armed := D.armed } := by unfold Dev.count; rw [e1, if_pos h, h]
    rw [ec]
    ((set_option smartUnfolding false in conv => whnf) <;> (repeat (first | exact True.intro | ((first | refine ⟨rfl, ?_⟩ | refine ar (by omega) (by omega) ?_ | refine ar8 (by omega) (by omega) ?_ | refine ix (by omega) ?_ | refine IdxVC.mk 0 rfl (by omega) ?_ | refine BytesVC.mk _ rfl ?_ | refine DivVC.mk (by omega) (by omega) ?_ | refine RemVC.mk (by omega) (by omega) ?_ | refine GhVC.mk _ _ _ rfl ?_); set_option smartUnfolding false in conv => whnf))))
    exact ⟨by unfold Dev.fires; rw [h]; rfl, rfl, rfl⟩
  · have ec : D.count = { D with calls := D.calls + 1, armed := D.armed - 1 } := by unfold Dev.count; rw [e1, if_neg h]
    rw [ec]
    ((set_option smartUnfolding false in conv => whnf) <;> (repeat (first | exact True.intro | ((first | refine ⟨rfl, ?_⟩ | refine ar (by omega) (by omega) ?_ | refine ar8 (by omega) (by omega) ?_ | refine ix (by omega) ?_ | refine IdxVC.mk 0 rfl (by omega) ?_ | refine BytesVC.mk _ rfl ?_ | refine DivVC.mk (by omega) (by omega) ?_ | refine RemVC.mk (by omega) (by omega) ?_ | refine GhVC.mk _ _ _ rfl ?_); set_option smartUnfolding false in conv => whnf))))
    refine ⟨?_, rfl, rfl⟩
    congr 2
    unfold Dev.fires
    by_cases h2 : D.armed = 1
    · rw [h2]; rfl
    · rw [decide_eq_false (by omega)]; simp [h2]
set_option maxRecDepth 100000 in
theorem Kept_con (P : Hp) (l : Loss) (hl : l.ok) (ka : Option Addr) (kc : Nat) (kk : Int) (k : Nat) (hkk : kk = (k : Int)) (hk : k ≤ 1000000000) :
    Con Try.prog [] 69 [.agg [.rs ka kc (keepC l.keep), .raw (.int .i64 l.torn), .raw (.int .i64 l.off)], .raw (.int .i64 kk)] P [] fun x P' H' => x = .raw (.bool (kept l k)) ∧ P' = P ∧ H' = [] := by
  have hkl : (l.keep.map kEnc).length = l.keep.length := List.length_map ..
  refine Con.sub (con_of_fun T_good (by kernel_rfl) Try.call69 Try.func69 (by kernel_rfl) (by show 2 ≤ _; decide +kernel) ?_)
  ((set_option smartUnfolding false in conv => whnf) <;> (repeat (first | exact True.intro | ((first | refine ⟨rfl, ?_⟩ | refine ar (by omega) (by omega) ?_ | refine ar8 (by omega) (by omega) ?_ | refine ix (by omega) ?_ | refine IdxVC.mk 0 rfl (by omega) ?_ | refine BytesVC.mk _ rfl ?_ | refine DivVC.mk (by omega) (by omega) ?_ | refine RemVC.mk (by omega) (by omega) ?_ | refine GhVC.mk _ _ _ rfl ?_); set_option smartUnfolding false in conv => whnf))))
  refine bxd (fun h => ?_) (fun h => ?_)
  · have hlt : k / 64 < l.keep.length := by have h : kk / 64 < ((l.keep.map kEnc).length : Int) := h; omega
    obtain ⟨x, hx⟩ : ∃ x, l.keep[k / 64]? = some x := ⟨l.keep[k / 64], List.getElem?_eq_getElem hlt⟩
    have hld : (l.keep.map kEnc)[k / 64]? = some (kEnc x) := by rw [List.getElem?_map, hx]; rfl
    ((set_option smartUnfolding false in conv => whnf) <;> (repeat (first | exact True.intro | ((first | refine ⟨rfl, ?_⟩ | refine ar (by omega) (by omega) ?_ | refine ar8 (by omega) (by omega) ?_ | refine ix (by omega) ?_ | refine IdxVC.mk 0 rfl (by omega) ?_ | refine BytesVC.mk _ rfl ?_ | refine DivVC.mk (by omega) (by omega) ?_ | refine RemVC.mk (by omega) (by omega) ?_ | refine GhVC.mk _ _ _ rfl ?_); set_option smartUnfolding false in conv => whnf))))
    refine ⟨show 0 < 1 by omega, ?_⟩
    refine IdxVC.mk (k / 64) (by omega) (by show k / 64 < (l.keep.map kEnc).length; omega) ?_
    ((set_option smartUnfolding false in conv => whnf) <;> (repeat (first | exact True.intro | ((first | refine ⟨rfl, ?_⟩ | refine ar (by omega) (by omega) ?_ | refine ar8 (by omega) (by omega) ?_ | refine ix (by omega) ?_ | refine IdxVC.mk 0 rfl (by omega) ?_ | refine BytesVC.mk _ rfl ?_ | refine DivVC.mk (by omega) (by omega) ?_ | refine RemVC.mk (by omega) (by omega) ?_ | refine GhVC.mk _ _ _ rfl ?_); set_option smartUnfolding false in conv => whnf))))
    refine .mk (kEnc x) hld ?_
    ((set_option smartUnfolding false in conv => whnf) <;> (repeat (first | exact True.intro | ((first | refine ⟨rfl, ?_⟩ | refine ar (by omega) (by omega) ?_ | refine ar8 (by omega) (by omega) ?_ | refine ix (by omega) ?_ | refine IdxVC.mk 0 rfl (by omega) ?_ | refine BytesVC.mk _ rfl ?_ | refine DivVC.mk (by omega) (by omega) ?_ | refine RemVC.mk (by omega) (by omega) ?_ | refine GhVC.mk _ _ _ rfl ?_); set_option smartUnfolding false in conv => whnf))))
    refine .mk (k % 64) (by omega) (by show k % 64 ≤ 64; omega) ?_
    ((set_option smartUnfolding false in conv => whnf) <;> (repeat (first | exact True.intro | ((first | refine ⟨rfl, ?_⟩ | refine ar (by omega) (by omega) ?_ | refine ar8 (by omega) (by omega) ?_ | refine ix (by omega) ?_ | refine IdxVC.mk 0 rfl (by omega) ?_ | refine BytesVC.mk _ rfl ?_ | refine DivVC.mk (by omega) (by omega) ?_ | refine RemVC.mk (by omega) (by omega) ?_ | refine GhVC.mk _ _ _ rfl ?_); set_option smartUnfolding false in conv => whnf))))
    refine ⟨[], ?_⟩
    ((set_option smartUnfolding false in conv => whnf) <;> (repeat (first | exact True.intro | ((first | refine ⟨rfl, ?_⟩ | refine ar (by omega) (by omega) ?_ | refine ar8 (by omega) (by omega) ?_ | refine ix (by omega) ?_ | refine IdxVC.mk 0 rfl (by omega) ?_ | refine BytesVC.mk _ rfl ?_ | refine DivVC.mk (by omega) (by omega) ?_ | refine RemVC.mk (by omega) (by omega) ?_ | refine GhVC.mk _ _ _ rfl ?_); set_option smartUnfolding false in conv => whnf))))
    refine ⟨?_, rfl, rfl⟩
    congr 2
    have hb := kept_bit x (k % 64) (hl.keep x (List.mem_of_getElem? hx))
    unfold kept
    rw [decide_eq_true hlt, List.getD_eq_getElem?_getD, hx, Bool.true_and]
    exact hb
  · ((set_option smartUnfolding false in conv => whnf) <;> (repeat (first | exact True.intro | ((first | refine ⟨rfl, ?_⟩ | refine ar (by omega) (by omega) ?_ | refine ar8 (by omega) (by omega) ?_ | refine ix (by omega) ?_ | refine IdxVC.mk 0 rfl (by omega) ?_ | refine BytesVC.mk _ rfl ?_ | refine DivVC.mk (by omega) (by omega) ?_ | refine RemVC.mk (by omega) (by omega) ?_ | refine GhVC.mk _ _ _ rfl ?_); set_option smartUnfolding false in conv => whnf))))
    refine ⟨[], ?_⟩
    ((set_option smartUnfolding false in conv => whnf) <;> (repeat (first | exact True.intro | ((first | refine ⟨rfl, ?_⟩ | refine ar (by omega) (by omega) ?_ | refine ar8 (by omega) (by omega) ?_ | refine ix (by omega) ?_ | refine IdxVC.mk 0 rfl (by omega) ?_ | refine BytesVC.mk _ rfl ?_ | refine DivVC.mk (by omega) (by omega) ?_ | refine RemVC.mk (by omega) (by omega) ?_ | refine GhVC.mk _ _ _ rfl ?_); set_option smartUnfolding false in conv => whnf))))
    refine ⟨?_, rfl, rfl⟩
    congr 2
    unfold kept
    rw [decide_eq_false (by have h : ¬ kk / 64 < ((l.keep.map kEnc).length : Int) := h; omega), Bool.false_and]
set_option maxRecDepth 100000 in
theorem Rloss_con (P : Hp) (l : Loss) (hl : l.ok) (ka : Option Addr) (kc : Nat) (hk9 : l.keep.length ≤ 1000000000) :
    Con Try.prog [] 70 [.agg [.rs ka kc (keepC l.keep), .raw (.int .i64 l.torn), .raw (.int .i64 l.off)]] P [] fun x P' H' => ∃ cap, x = .agg [.sl 40 1 0 l.keep.length cap, .raw (.int .i64 l.torn), .raw (.int .i64 l.off)] ∧ P' = P ∧ H' = [.row 40 39 cap (keepC l.keep)] := by
  have hkl : (l.keep.map kEnc).length = l.keep.length := List.length_map ..
  refine Con.ren (Con.sub (con_of_fun T_good (by kernel_rfl) Try.call70 Try.func70 (by kernel_rfl) (by show 1 ≤ _; decide +kernel) ?_))
  ((set_option smartUnfolding false in conv => whnf) <;> (repeat (first | exact True.intro | ((first | refine ⟨rfl, ?_⟩ | refine ar (by omega) (by omega) ?_ | refine ar8 (by omega) (by omega) ?_ | refine ix (by omega) ?_ | refine IdxVC.mk 0 rfl (by omega) ?_ | refine BytesVC.mk _ rfl ?_ | refine DivVC.mk (by omega) (by omega) ?_ | refine RemVC.mk (by omega) (by omega) ?_ | refine GhVC.mk _ _ _ rfl ?_); set_option smartUnfolding false in conv => whnf))))
  refine .mk (keepC l.keep) rfl rfl ?_
  ((set_option smartUnfolding false in conv => whnf) <;> (repeat (first | exact True.intro | ((first | refine ⟨rfl, ?_⟩ | refine ar (by omega) (by omega) ?_ | refine ar8 (by omega) (by omega) ?_ | refine ix (by omega) ?_ | refine IdxVC.mk 0 rfl (by omega) ?_ | refine BytesVC.mk _ rfl ?_ | refine DivVC.mk (by omega) (by omega) ?_ | refine RemVC.mk (by omega) (by omega) ?_ | refine GhVC.mk _ _ _ rfl ?_); set_option smartUnfolding false in conv => whnf))))
  refine ap (by show (l.keep.map kEnc).length * 8 ≤ _; omega) (by show (l.keep.map kEnc).length ≤ _; omega) (fun cap h1 h2 => ?_)
  ((set_option smartUnfolding false in conv => whnf) <;> (repeat (first | exact True.intro | ((first | refine ⟨rfl, ?_⟩ | refine ar (by omega) (by omega) ?_ | refine ar8 (by omega) (by omega) ?_ | refine ix (by omega) ?_ | refine IdxVC.mk 0 rfl (by omega) ?_ | refine BytesVC.mk _ rfl ?_ | refine DivVC.mk (by omega) (by omega) ?_ | refine RemVC.mk (by omega) (by omega) ?_ | refine GhVC.mk _ _ _ rfl ?_); set_option smartUnfolding false in conv => whnf))))
  refine ⟨[.row 7 39 cap (keepC l.keep)], ?_⟩
  ((set_option smartUnfolding false in conv => whnf) <;> (repeat (first | exact True.intro | ((first | refine ⟨rfl, ?_⟩ | refine ar (by omega) (by omega) ?_ | refine ar8 (by omega) (by omega) ?_ | refine ix (by omega) ?_ | refine IdxVC.mk 0 rfl (by omega) ?_ | refine BytesVC.mk _ rfl ?_ | refine DivVC.mk (by omega) (by omega) ?_ | refine RemVC.mk (by omega) (by omega) ?_ | refine GhVC.mk _ _ _ rfl ?_); set_option smartUnfolding false in conv => whnf))))
  refine ⟨[(7, 40)], rfl, rfl, ?_⟩
  ((set_option smartUnfolding false in conv => whnf) <;> (repeat (first | exact True.intro | ((first | refine ⟨rfl, ?_⟩ | refine ar (by omega) (by omega) ?_ | refine ar8 (by omega) (by omega) ?_ | refine ix (by omega) ?_ | refine IdxVC.mk 0 rfl (by omega) ?_ | refine BytesVC.mk _ rfl ?_ | refine DivVC.mk (by omega) (by omega) ?_ | refine RemVC.mk (by omega) (by omega) ?_ | refine GhVC.mk _ _ _ rfl ?_); set_option smartUnfolding false in conv => whnf))))
  exact ⟨cap, by rw [show (keepC l.keep).l.length = l.keep.length from hkl]; rfl, rfl, rfl⟩
/-- .. and nobody writes it again -/
theorem RlossF_con (P : Hp) (l : Loss) (hl : l.ok) (ka : Option Addr) (kc : Nat) (hk9 : l.keep.length ≤ 1000000000) :
    Con Try.prog [] 70 [.agg [.rs ka kc (keepC l.keep), .raw (.int .i64 l.torn), .raw (.int .i64 l.off)]] P [] fun x P' H' => ∃ a cap, x = .agg [.rs a cap (keepC l.keep), .raw (.int .i64 l.torn), .raw (.int .i64 l.off)] ∧ H' = [] := by
  refine (Con.freezeA (Rloss_con P l hl ka kc hk9) (fun c rs _ r => c = keepC l.keep ∧ rs = [.raw (.int .i64 l.torn), .raw (.int .i64 l.off)] ∧ r = []) ?_).mono ?_
  · rintro x P' H' ⟨cap, rfl, rfl, rfl⟩
    refine ⟨40, _, cap, keepC l.keep, _, [], ?_, rfl, ?_, rfl, rfl, rfl⟩
    · show _ = SV.agg (.sl 40 1 0 (l.keep.map kEnc).length cap :: _)
      rw [List.length_map]
    · rw [keep_vals]
      intro v hv
      obtain ⟨y, -, rfl⟩ := List.mem_map.1 hv
      rfl
  · rintro x P' H' ⟨a, cap, c, rs, P2, rfl, -, rfl, rfl, rfl⟩
    exact ⟨a, cap, rfl, rfl⟩
set_option maxRecDepth 100000 in
theorem RArm_con (P : Hp) (bc lc : Nat) (D : Dev) (ka : Option Addr) (kc : Nat) (step : Int) (s1 : -9223372036854775808 ≤ step) (s2 : step ≤ 9223372036854775807) (l : Loss) (hl : l.ok) (la : Option Addr) (lac : Nat) (hk9 : l.keep.length ≤ 1000000000) :
    Con Try.prog [0, 300, 301, 302] 64 [.ptr 300 0, .raw (.int .i64 step), .agg [.rs la lac (keepC l.keep), .raw (.int .i64 l.torn), .raw (.int .i64 l.off)]] P [rB bc lc D ka kc] fun x P' H' => ∃ ka' kc', x = .raw (.int .i64 (D.arm step l).2) ∧ H' = [rB bc lc (D.arm step l).1 ka' kc'] := by
  refine Con.sub (con_of_fun T_good (by kernel_rfl) Try.call64 Try.func64 (by kernel_rfl) (by show 3 ≤ _; decide +kernel) ?_)
  ((set_option smartUnfolding false in conv => whnf) <;> (repeat (first | exact True.intro | ((first | refine ⟨rfl, ?_⟩ | refine ar (by omega) (by omega) ?_ | refine ar8 (by omega) (by omega) ?_ | refine ix (by omega) ?_ | refine IdxVC.mk 0 rfl (by omega) ?_ | refine BytesVC.mk _ rfl ?_ | refine DivVC.mk (by omega) (by omega) ?_ | refine RemVC.mk (by omega) (by omega) ?_ | refine GhVC.mk _ _ _ rfl ?_); set_option smartUnfolding false in conv => whnf))))
  obtain ⟨q, hq⟩ : ∃ q, q = D.arm step l := ⟨_, rfl⟩
  rw [← hq]
  cases hd : D.down with
  | true =>
    have hq2 : q = (D, 80) := by rw [hq]; unfold Dev.arm; rw [hd, if_pos rfl]
    rw [hq2]
    ((set_option smartUnfolding false in conv => whnf) <;> (repeat (first | exact True.intro | ((first | refine ⟨rfl, ?_⟩ | refine ar (by omega) (by omega) ?_ | refine ar8 (by omega) (by omega) ?_ | refine ix (by omega) ?_ | refine IdxVC.mk 0 rfl (by omega) ?_ | refine BytesVC.mk _ rfl ?_ | refine DivVC.mk (by omega) (by omega) ?_ | refine RemVC.mk (by omega) (by omega) ?_ | refine GhVC.mk _ _ _ rfl ?_); set_option smartUnfolding false in conv => whnf))))
    refine ⟨[rB bc lc D ka kc], ?_⟩
    ((set_option smartUnfolding false in conv => whnf) <;> (repeat (first | exact True.intro | ((first | refine ⟨rfl, ?_⟩ | refine ar (by omega) (by omega) ?_ | refine ar8 (by omega) (by omega) ?_ | refine ix (by omega) ?_ | refine IdxVC.mk 0 rfl (by omega) ?_ | refine BytesVC.mk _ rfl ?_ | refine DivVC.mk (by omega) (by omega) ?_ | refine RemVC.mk (by omega) (by omega) ?_ | refine GhVC.mk _ _ _ rfl ?_); set_option smartUnfolding false in conv => whnf))))
    exact ⟨ka, kc, rfl, rfl⟩
  | false =>
    ((set_option smartUnfolding false in conv => whnf) <;> (repeat (first | exact True.intro | ((first | refine ⟨rfl, ?_⟩ | refine ar (by omega) (by omega) ?_ | refine ar8 (by omega) (by omega) ?_ | refine ix (by omega) ?_ | refine IdxVC.mk 0 rfl (by omega) ?_ | refine BytesVC.mk _ rfl ?_ | refine DivVC.mk (by omega) (by omega) ?_ | refine RemVC.mk (by omega) (by omega) ?_ | refine GhVC.mk _ _ _ rfl ?_); set_option smartUnfolding false in conv => whnf))))
    refine bxd (fun h => ?_) (fun h => ?_)
    · have hq2 : q = (D, 4) := by rw [hq]; unfold Dev.arm; rw [hd, if_neg (by simp), if_pos h]
      rw [hq2]
      ((set_option smartUnfolding false in conv => whnf) <;> (repeat (first | exact True.intro | ((first | refine ⟨rfl, ?_⟩ | refine ar (by omega) (by omega) ?_ | refine ar8 (by omega) (by omega) ?_ | refine ix (by omega) ?_ | refine IdxVC.mk 0 rfl (by omega) ?_ | refine BytesVC.mk _ rfl ?_ | refine DivVC.mk (by omega) (by omega) ?_ | refine RemVC.mk (by omega) (by omega) ?_ | refine GhVC.mk _ _ _ rfl ?_); set_option smartUnfolding false in conv => whnf))))
      refine ⟨[rB bc lc D ka kc], ?_⟩
      ((set_option smartUnfolding false in conv => whnf) <;> (repeat (first | exact True.intro | ((first | refine ⟨rfl, ?_⟩ | refine ar (by omega) (by omega) ?_ | refine ar8 (by omega) (by omega) ?_ | refine ix (by omega) ?_ | refine IdxVC.mk 0 rfl (by omega) ?_ | refine BytesVC.mk _ rfl ?_ | refine DivVC.mk (by omega) (by omega) ?_ | refine RemVC.mk (by omega) (by omega) ?_ | refine GhVC.mk _ _ _ rfl ?_); set_option smartUnfolding false in conv => whnf))))
      exact ⟨ka, kc, rfl, rfl⟩
    · have hq2 : q = ({ D with armed := step, loss := l }, 0) := by rw [hq]; unfold Dev.arm; rw [hd, if_neg (by simp), if_neg h]
      rw [hq2]
      ((set_option smartUnfolding false in conv => whnf) <;> (repeat (first | exact True.intro | ((first | refine ⟨rfl, ?_⟩ | refine ar (by omega) (by omega) ?_ | refine ar8 (by omega) (by omega) ?_ | refine ix (by omega) ?_ | refine IdxVC.mk 0 rfl (by omega) ?_ | refine BytesVC.mk _ rfl ?_ | refine DivVC.mk (by omega) (by omega) ?_ | refine RemVC.mk (by omega) (by omega) ?_ | refine GhVC.mk _ _ _ rfl ?_); set_option smartUnfolding false in conv => whnf))))
      refine call_con (N := []) (RlossF_con _ l hl la lac hk9) ?_
      ((set_option smartUnfolding false in conv => whnf) <;> (repeat (first | exact True.intro | ((first | refine ⟨rfl, ?_⟩ | refine ar (by omega) (by omega) ?_ | refine ar8 (by omega) (by omega) ?_ | refine ix (by omega) ?_ | refine IdxVC.mk 0 rfl (by omega) ?_ | refine BytesVC.mk _ rfl ?_ | refine DivVC.mk (by omega) (by omega) ?_ | refine RemVC.mk (by omega) (by omega) ?_ | refine GhVC.mk _ _ _ rfl ?_); set_option smartUnfolding false in conv => whnf))))
      rintro x P1 H' - ⟨ka', kc', rfl, rfl⟩
      ((set_option smartUnfolding false in conv => whnf) <;> (repeat (first | exact True.intro | ((first | refine ⟨rfl, ?_⟩ | refine ar (by omega) (by omega) ?_ | refine ar8 (by omega) (by omega) ?_ | refine ix (by omega) ?_ | refine IdxVC.mk 0 rfl (by omega) ?_ | refine BytesVC.mk _ rfl ?_ | refine DivVC.mk (by omega) (by omega) ?_ | refine RemVC.mk (by omega) (by omega) ?_ | refine GhVC.mk _ _ _ rfl ?_); set_option smartUnfolding false in conv => whnf))))
      refine ⟨[rB bc lc { D with armed := step, loss := l } ka' kc'], ?_⟩
      ((set_option smartUnfolding false in conv => whnf) <;> (repeat (first | exact True.intro | ((first | refine ⟨rfl, ?_⟩ | refine ar (by omega) (by omega) ?_ | refine ar8 (by omega) (by omega) ?_ | refine ix (by omega) ?_ | refine IdxVC.mk 0 rfl (by omega) ?_ | refine BytesVC.mk _ rfl ?_ | refine DivVC.mk (by omega) (by omega) ?_ | refine RemVC.mk (by omega) (by omega) ?_ | refine GhVC.mk _ _ _ rfl ?_); set_option smartUnfolding false in conv => whnf))))
      exact ⟨ka', kc', rfl, rfl⟩
theorem splice_snoc {α : Type} (L cs : List α) (x : α) (p : Nat) (h : p + cs.length < L.length) : (splice L p cs).set (p + cs.length) x = splice L p (cs ++ [x]) := by
  unfold splice
  have hp : (L.take p).length = p := by rw [List.length_take]; omega
  rw [List.set_append, if_neg (by omega), hp, List.set_append, if_neg (by omega), show p + cs.length - p - cs.length = 0 from by omega]
  rw [List.drop_eq_getElem_cons (show p + cs.length < L.length by omega)]
  simp [Nat.add_assoc]
set_option maxRecDepth 100000 in
theorem Rput_con (P : Hp) (bc lc : Nat) (D : Dev) (img : List UInt8) (hil : img.length = D.img.length) (hl2 : img.length ≤ 2097152) (ka : Option Addr) (kc : Nat) (i : Nat) (pa : Option Addr) (pc : Nat) (pb : List UInt8) (hpb : pb.length = 512) (hi : i * 512 + 512 ≤ img.length) (n : Int) (m : Nat) (hm : m ≤ 512) (hnm : n = (m : Int)) :
    Con Try.prog [0, 300, 301, 302] 63 [.ptr 300 0, .agg [.raw (.int .i64 (i : Int)), .bs pa pc pb], .raw (.int .i64 n)] P [rB bc lc D ka kc, .row 301 5 bc (Eng.bytes img)] fun x P' H' => x = .tup [] ∧ P' = P ∧ H' = [rB bc lc D ka kc, .row 301 5 bc (Eng.bytes (put img (i, pb) m))] := by
  have hp0 : put img (i, pb) 0 = img := by unfold put; simp [splice]
  have hpl : ∀ k, k ≤ 512 → (put img (i, pb) k).length = img.length := fun k _ => put_length img (i, pb) k hi hpb
  refine Con.sub (con_of_fun T_good (by kernel_rfl) Try.call63 Try.func63 (by kernel_rfl) (by show 3 ≤ _; decide +kernel) ?_)
  ((set_option smartUnfolding false in conv => whnf) <;> (repeat (first | exact True.intro | ((first | refine ⟨rfl, ?_⟩ | refine ar (by omega) (by omega) ?_ | refine ar8 (by omega) (by omega) ?_ | refine ix (by omega) ?_ | refine IdxVC.mk 0 rfl (by omega) ?_ | refine BytesVC.mk _ rfl ?_ | refine DivVC.mk (by omega) (by omega) ?_ | refine RemVC.mk (by omega) (by omega) ?_ | refine GhVC.mk _ _ _ rfl ?_); set_option smartUnfolding false in conv => whnf))))
  refine .mk (β := { x : Int × List UInt8 // ∃ k : Nat, x.1 = (k : Int) ∧ k ≤ m ∧ x.2 = put img (i, pb) k }) (fun ⟨(kk, L), _⟩ => ⟨[(6, .raw (.int .i64 kk)), (4, .ptr 4 0), (2, .raw (.int .i64 n)), (0, .ptr 300 0)], P, [rB bc lc D ka kc, .row 301 5 bc (Eng.bytes L), .blk 4 76 [.raw (.int .i64 (i : Int)), .bs pa pc pb]]⟩) (fun b => ((m : Int) - b.1.1).toNat) ⟨(0, img), ⟨0, rfl, Nat.zero_le _, hp0.symm⟩⟩ ?_ ?_
  · ((set_option smartUnfolding false in conv => whnf) <;> (repeat (first | exact True.intro | ((first | refine ⟨rfl, ?_⟩ | refine ar (by omega) (by omega) ?_ | refine ar8 (by omega) (by omega) ?_ | refine ix (by omega) ?_ | refine IdxVC.mk 0 rfl (by omega) ?_ | refine BytesVC.mk _ rfl ?_ | refine DivVC.mk (by omega) (by omega) ?_ | refine RemVC.mk (by omega) (by omega) ?_ | refine GhVC.mk _ _ _ rfl ?_); set_option smartUnfolding false in conv => whnf))))
  · rintro ⟨⟨kk, L⟩, hk'⟩ -
    obtain ⟨k, hkk, hkm, hL⟩ : ∃ k : Nat, kk = (k : Int) ∧ k ≤ m ∧ L = put img (i, pb) k := hk'
    have hLl : L.length = img.length := by rw [hL]; exact hpl k (by omega)
    ((set_option smartUnfolding false in conv => whnf) <;> (repeat (first | exact True.intro | ((first | refine ⟨rfl, ?_⟩ | refine ar (by omega) (by omega) ?_ | refine ar8 (by omega) (by omega) ?_ | refine ix (by omega) ?_ | refine IdxVC.mk 0 rfl (by omega) ?_ | refine BytesVC.mk _ rfl ?_ | refine DivVC.mk (by omega) (by omega) ?_ | refine RemVC.mk (by omega) (by omega) ?_ | refine GhVC.mk _ _ _ rfl ?_); set_option smartUnfolding false in conv => whnf))))
    refine bxd (fun h => ?_) (fun h => ?_)
    · have hkl : k < m := by omega
      obtain ⟨y, hy⟩ : ∃ y, pb[k]? = some y := ⟨pb[k], List.getElem?_eq_getElem (by omega)⟩
      ((set_option smartUnfolding false in conv => whnf) <;> (repeat (first | exact True.intro | ((first | refine ⟨rfl, ?_⟩ | refine ar (by omega) (by omega) ?_ | refine ar8 (by omega) (by omega) ?_ | refine ix (by omega) ?_ | refine IdxVC.mk 0 rfl (by omega) ?_ | refine BytesVC.mk _ rfl ?_ | refine DivVC.mk (by omega) (by omega) ?_ | refine RemVC.mk (by omega) (by omega) ?_ | refine GhVC.mk _ _ _ rfl ?_); set_option smartUnfolding false in conv => whnf))))
      refine IdxVC.mk k hkk (by omega) ?_
      ((set_option smartUnfolding false in conv => whnf) <;> (repeat (first | exact True.intro | ((first | refine ⟨rfl, ?_⟩ | refine ar (by omega) (by omega) ?_ | refine ar8 (by omega) (by omega) ?_ | refine ix (by omega) ?_ | refine IdxVC.mk 0 rfl (by omega) ?_ | refine BytesVC.mk _ rfl ?_ | refine DivVC.mk (by omega) (by omega) ?_ | refine RemVC.mk (by omega) (by omega) ?_ | refine GhVC.mk _ _ _ rfl ?_); set_option smartUnfolding false in conv => whnf))))
      refine .mk y hy ?_
      ((set_option smartUnfolding false in conv => whnf) <;> (repeat (first | exact True.intro | ((first | refine ⟨rfl, ?_⟩ | refine ar (by omega) (by omega) ?_ | refine ar8 (by omega) (by omega) ?_ | refine ix (by omega) ?_ | refine IdxVC.mk 0 rfl (by omega) ?_ | refine BytesVC.mk _ rfl ?_ | refine DivVC.mk (by omega) (by omega) ?_ | refine RemVC.mk (by omega) (by omega) ?_ | refine GhVC.mk _ _ _ rfl ?_); set_option smartUnfolding false in conv => whnf))))
      refine IdxVC.mk (i * 512 + k) (by omega) (by omega) ?_
      ((set_option smartUnfolding false in conv => whnf) <;> (repeat (first | exact True.intro | ((first | refine ⟨rfl, ?_⟩ | refine ar (by omega) (by omega) ?_ | refine ar8 (by omega) (by omega) ?_ | refine ix (by omega) ?_ | refine IdxVC.mk 0 rfl (by omega) ?_ | refine BytesVC.mk _ rfl ?_ | refine DivVC.mk (by omega) (by omega) ?_ | refine RemVC.mk (by omega) (by omega) ?_ | refine GhVC.mk _ _ _ rfl ?_); set_option smartUnfolding false in conv => whnf))))
      have h0 : L[0 + (i * 512 + k)]? = some (L[i * 512 + k]'(by omega)) := by rw [Nat.zero_add]; exact List.getElem?_eq_getElem _
      refine .mk _ y h0 rfl (Nat.le_refl _) ?_
      ((set_option smartUnfolding false in conv => whnf) <;> (repeat (first | exact True.intro | ((first | refine ⟨rfl, ?_⟩ | refine ar (by omega) (by omega) ?_ | refine ar8 (by omega) (by omega) ?_ | refine ix (by omega) ?_ | refine IdxVC.mk 0 rfl (by omega) ?_ | refine BytesVC.mk _ rfl ?_ | refine DivVC.mk (by omega) (by omega) ?_ | refine RemVC.mk (by omega) (by omega) ?_ | refine GhVC.mk _ _ _ rfl ?_); set_option smartUnfolding false in conv => whnf))))
      have hset : L.set (0 + (i * 512 + k)) y = put img (i, pb) (k + 1) := by
        have e1 : pb.take (k + 1) = pb.take k ++ [y] := by rw [List.take_add_one, hy]; rfl
        have e2 : (pb.take k).length = k := by rw [List.length_take]; omega
        have := splice_snoc img (pb.take k) y (i * 512) (by rw [e2]; omega)
        rw [e2] at this
        rw [hL, Nat.zero_add]
        unfold put
        rw [e1]
        exact this
      refine ⟨⟨(kk + 1, L.set (0 + (i * 512 + k)) y), ⟨k + 1, by omega, by omega, hset⟩⟩, show ((m : Int) - (kk + 1)).toNat < ((m : Int) - kk).toNat by omega, ?_⟩
      ((set_option smartUnfolding false in conv => whnf) <;> (repeat (first | exact True.intro | ((first | refine ⟨rfl, ?_⟩ | refine ar (by omega) (by omega) ?_ | refine ar8 (by omega) (by omega) ?_ | refine ix (by omega) ?_ | refine IdxVC.mk 0 rfl (by omega) ?_ | refine BytesVC.mk _ rfl ?_ | refine DivVC.mk (by omega) (by omega) ?_ | refine RemVC.mk (by omega) (by omega) ?_ | refine GhVC.mk _ _ _ rfl ?_); set_option smartUnfolding false in conv => whnf))))
    · have hkm2 : k = m := by omega
      ((set_option smartUnfolding false in conv => whnf) <;> (repeat (first | exact True.intro | ((first | refine ⟨rfl, ?_⟩ | refine ar (by omega) (by omega) ?_ | refine ar8 (by omega) (by omega) ?_ | refine ix (by omega) ?_ | refine IdxVC.mk 0 rfl (by omega) ?_ | refine BytesVC.mk _ rfl ?_ | refine DivVC.mk (by omega) (by omega) ?_ | refine RemVC.mk (by omega) (by omega) ?_ | refine GhVC.mk _ _ _ rfl ?_); set_option smartUnfolding false in conv => whnf))))
      refine ⟨[rB bc lc D ka kc, .row 301 5 bc (Eng.bytes L)], ?_⟩
      ((set_option smartUnfolding false in conv => whnf) <;> (repeat (first | exact True.intro | ((first | refine ⟨rfl, ?_⟩ | refine ar (by omega) (by omega) ?_ | refine ar8 (by omega) (by omega) ?_ | refine ix (by omega) ?_ | refine IdxVC.mk 0 rfl (by omega) ?_ | refine BytesVC.mk _ rfl ?_ | refine DivVC.mk (by omega) (by omega) ?_ | refine RemVC.mk (by omega) (by omega) ?_ | refine GhVC.mk _ _ _ rfl ?_); set_option smartUnfolding false in conv => whnf))))
      rw [hL, hkm2]
/-- a pending write of the reference: its bytes are never written again -/
abbrev Pr := Nat × Option Addr × Nat × List UInt8
def pEnc (z : Pr) : List Cell := [.v (.int .i64 (z.1 : Int)), .bs z.2.1 z.2.2.1 z.2.2.2]
abbrev pdC (l : List Pr) : Cont := ⟨2, pEnc, l⟩
def Pr.p (z : Pr) : Nat × List UInt8 := (z.1, z.2.2.2)
/-- the reference's device whole, some writes pending -/
abbrev rH (bc lc : Nat) (D : Dev) (ka : Option Addr) (kc : Nat) (img : List UInt8) (zs : List Pr) : List Ck := [rB bc lc D ka kc, .row 301 5 bc (Eng.bytes img), .row 302 76 lc (pdC zs)]
/-- .. and none: its list is nil -/
abbrev rB0 (bc : Nat) (D : Dev) (ka : Option Addr) (kc : Nat) : Ck := .blk 300 95 [.sl 301 1 0 D.img.length bc, .raw (.slice none 0 0), .raw (.bool D.down), .raw (.int .i64 D.armed), .rs ka kc (keepC D.loss.keep), .raw (.int .i64 D.loss.torn), .raw (.int .i64 D.loss.off), .raw (.int .i64 D.calls)]
theorem clip (o : Int) : (max 0 (min 512 o)) = ((min (max o 0) 512).toNat : Int) := by omega
set_option maxRecDepth 100000 in
set_option maxHeartbeats 1000000 in
theorem Rfalls_con (P : Hp) (bc lc : Nat) (D : Dev) (hD : D.ok) (hl2 : D.img.length ≤ 2097152) (ka : Option Addr) (kc : Nat) (zs : List Pr) (hz : zs.map Pr.p = D.pend) (hzl : zs.length ≤ 1000000) (l : Loss) (hl : l.ok) (la : Option Addr) (lac : Nat) :
    Con Try.prog [0, 300, 301] 62 [.ptr 300 0, .agg [.rs la lac (keepC l.keep), .raw (.int .i64 l.torn), .raw (.int .i64 l.off)]] P (rH bc lc D ka kc D.img zs) fun x P' H' => x = .tup [] ∧ P' = P ∧ H' = [rB0 bc (D.fall l) ka kc, .row 301 5 bc (Eng.bytes (D.fall l).img)] := by
  have hpl : D.pend.length = zs.length := by rw [← hz, List.length_map]
  have hzl2 : (pdC zs).l.length = D.pend.length := hpl.symm
  refine Con.sub (con_of_fun T_good (by kernel_rfl) Try.call62 Try.func62 (by kernel_rfl) (by show 2 ≤ _; decide +kernel) ?_)
  ((set_option smartUnfolding false in conv => whnf) <;> (repeat (first | exact True.intro | ((first | refine ⟨rfl, ?_⟩ | refine ar (by omega) (by omega) ?_ | refine ar8 (by omega) (by omega) ?_ | refine ix (by omega) ?_ | refine IdxVC.mk 0 rfl (by omega) ?_ | refine BytesVC.mk _ rfl ?_ | refine DivVC.mk (by omega) (by omega) ?_ | refine RemVC.mk (by omega) (by omega) ?_ | refine GhVC.mk _ _ _ rfl ?_); set_option smartUnfolding false in conv => whnf))))
  refine .mk (β := { x : Int × List UInt8 // ∃ k : Nat, x.1 = (k : Int) ∧ k ≤ D.pend.length ∧ x.2.length = D.img.length ∧ fallFrom l 0 D.img D.pend = fallFrom l k x.2 (D.pend.drop k) }) (fun ⟨(kk, L), _⟩ => ⟨[(4, .raw (.int .i64 kk)), (3, .ptr 3 0), (0, .ptr 300 0)], P, .blk 3 38 [.rs la lac (keepC l.keep), .raw (.int .i64 l.torn), .raw (.int .i64 l.off)] :: rH bc lc D ka kc L zs⟩) (fun b => ((D.pend.length : Int) - b.1.1).toNat) ⟨(0, D.img), ⟨0, rfl, Nat.zero_le _, rfl, by rw [List.drop_zero]⟩⟩ ?_ ?_
  · ((set_option smartUnfolding false in conv => whnf) <;> (repeat (first | exact True.intro | ((first | refine ⟨rfl, ?_⟩ | refine ar (by omega) (by omega) ?_ | refine ar8 (by omega) (by omega) ?_ | refine ix (by omega) ?_ | refine IdxVC.mk 0 rfl (by omega) ?_ | refine BytesVC.mk _ rfl ?_ | refine DivVC.mk (by omega) (by omega) ?_ | refine RemVC.mk (by omega) (by omega) ?_ | refine GhVC.mk _ _ _ rfl ?_); set_option smartUnfolding false in conv => whnf))))
  · rintro ⟨⟨kk, L⟩, hk'⟩ -
    obtain ⟨k, hkk, hkm, hLl, hfl⟩ : ∃ k : Nat, kk = (k : Int) ∧ k ≤ D.pend.length ∧ L.length = D.img.length ∧ fallFrom l 0 D.img D.pend = fallFrom l k L (D.pend.drop k) := hk'
    ((set_option smartUnfolding false in conv => whnf) <;> (repeat (first | exact True.intro | ((first | refine ⟨rfl, ?_⟩ | refine ar (by omega) (by omega) ?_ | refine ar8 (by omega) (by omega) ?_ | refine ix (by omega) ?_ | refine IdxVC.mk 0 rfl (by omega) ?_ | refine BytesVC.mk _ rfl ?_ | refine DivVC.mk (by omega) (by omega) ?_ | refine RemVC.mk (by omega) (by omega) ?_ | refine GhVC.mk _ _ _ rfl ?_); set_option smartUnfolding false in conv => whnf))))
    refine bxd (fun h => ?_) (fun h => ?_)
    · have hkl : k < D.pend.length := by omega
      obtain ⟨z, hzk⟩ : ∃ z, zs[k]? = some z := ⟨zs[k]'(by omega), List.getElem?_eq_getElem _⟩
      have hpk : D.pend[k]? = some z.p := by rw [← hz, List.getElem?_map, hzk]; rfl
      have hpd := hD.pend z.p (List.mem_of_getElem? hpk)
      have hstep : ∀ m, remains l k = m → fallFrom l 0 D.img D.pend = fallFrom l (k + 1) (put L z.p m) (D.pend.drop (k + 1)) := fun m hm => by rw [hfl, fall_drop l D.pend k z.p hpk, hm]
      have hin : z.p.1 * 512 + 512 ≤ L.length := by rw [hLl]; exact hpd.1
      have hplen : ∀ m, (put L z.p m).length = D.img.length := fun m => by rw [put_length L z.p m hin hpd.2, hLl]
      ((set_option smartUnfolding false in conv => whnf) <;> (repeat (first | exact True.intro | ((first | refine ⟨rfl, ?_⟩ | refine ar (by omega) (by omega) ?_ | refine ar8 (by omega) (by omega) ?_ | refine ix (by omega) ?_ | refine IdxVC.mk 0 rfl (by omega) ?_ | refine BytesVC.mk _ rfl ?_ | refine DivVC.mk (by omega) (by omega) ?_ | refine RemVC.mk (by omega) (by omega) ?_ | refine GhVC.mk _ _ _ rfl ?_); set_option smartUnfolding false in conv => whnf))))
      refine call_con (N := []) (Kept_con _ l hl la lac kk k hkk (by omega)) ?_
      ((set_option smartUnfolding false in conv => whnf) <;> (repeat (first | exact True.intro | ((first | refine ⟨rfl, ?_⟩ | refine ar (by omega) (by omega) ?_ | refine ar8 (by omega) (by omega) ?_ | refine ix (by omega) ?_ | refine IdxVC.mk 0 rfl (by omega) ?_ | refine BytesVC.mk _ rfl ?_ | refine DivVC.mk (by omega) (by omega) ?_ | refine RemVC.mk (by omega) (by omega) ?_ | refine GhVC.mk _ _ _ rfl ?_); set_option smartUnfolding false in conv => whnf))))
      obtain ⟨bk, hbk⟩ : ∃ b, b = kept l k := ⟨_, rfl⟩
      rw [← hbk]
      rintro x P1 H' - ⟨rfl, rfl, rfl⟩
      cases bk with
      | true =>
        have hrm : remains l k = 512 := by unfold remains; rw [← hbk, if_pos rfl]
        ((set_option smartUnfolding false in conv => whnf) <;> (repeat (first | exact True.intro | ((first | refine ⟨rfl, ?_⟩ | refine ar (by omega) (by omega) ?_ | refine ar8 (by omega) (by omega) ?_ | refine ix (by omega) ?_ | refine IdxVC.mk 0 rfl (by omega) ?_ | refine BytesVC.mk _ rfl ?_ | refine DivVC.mk (by omega) (by omega) ?_ | refine RemVC.mk (by omega) (by omega) ?_ | refine GhVC.mk _ _ _ rfl ?_); set_option smartUnfolding false in conv => whnf))))
        refine IdxVC.mk k hkk (by omega) ?_
        ((set_option smartUnfolding false in conv => whnf) <;> (repeat (first | exact True.intro | ((first | refine ⟨rfl, ?_⟩ | refine ar (by omega) (by omega) ?_ | refine ar8 (by omega) (by omega) ?_ | refine ix (by omega) ?_ | refine IdxVC.mk 0 rfl (by omega) ?_ | refine BytesVC.mk _ rfl ?_ | refine DivVC.mk (by omega) (by omega) ?_ | refine RemVC.mk (by omega) (by omega) ?_ | refine GhVC.mk _ _ _ rfl ?_); set_option smartUnfolding false in conv => whnf))))
        refine .mk z (by rw [Nat.zero_add]; exact hzk) ?_
        ((set_option smartUnfolding false in conv => whnf) <;> (repeat (first | exact True.intro | ((first | refine ⟨rfl, ?_⟩ | refine ar (by omega) (by omega) ?_ | refine ar8 (by omega) (by omega) ?_ | refine ix (by omega) ?_ | refine IdxVC.mk 0 rfl (by omega) ?_ | refine BytesVC.mk _ rfl ?_ | refine DivVC.mk (by omega) (by omega) ?_ | refine RemVC.mk (by omega) (by omega) ?_ | refine GhVC.mk _ _ _ rfl ?_); set_option smartUnfolding false in conv => whnf))))
        refine call_con (N := []) (Rput_con _ bc lc D L hLl (by omega) ka kc z.1 z.2.1 z.2.2.1 z.2.2.2 hpd.2 hin 512 512 (Nat.le_refl _) rfl) ?_
        ((set_option smartUnfolding false in conv => whnf) <;> (repeat (first | exact True.intro | ((first | refine ⟨rfl, ?_⟩ | refine ar (by omega) (by omega) ?_ | refine ar8 (by omega) (by omega) ?_ | refine ix (by omega) ?_ | refine IdxVC.mk 0 rfl (by omega) ?_ | refine BytesVC.mk _ rfl ?_ | refine DivVC.mk (by omega) (by omega) ?_ | refine RemVC.mk (by omega) (by omega) ?_ | refine GhVC.mk _ _ _ rfl ?_); set_option smartUnfolding false in conv => whnf))))
        rintro x P2 H' - ⟨rfl, rfl, rfl⟩
        ((set_option smartUnfolding false in conv => whnf) <;> (repeat (first | exact True.intro | ((first | refine ⟨rfl, ?_⟩ | refine ar (by omega) (by omega) ?_ | refine ar8 (by omega) (by omega) ?_ | refine ix (by omega) ?_ | refine IdxVC.mk 0 rfl (by omega) ?_ | refine BytesVC.mk _ rfl ?_ | refine DivVC.mk (by omega) (by omega) ?_ | refine RemVC.mk (by omega) (by omega) ?_ | refine GhVC.mk _ _ _ rfl ?_); set_option smartUnfolding false in conv => whnf))))
        refine ⟨⟨(kk + 1, put L z.p 512), ⟨k + 1, by omega, by omega, hplen _, hstep _ hrm⟩⟩, show ((D.pend.length : Int) - (kk + 1)).toNat < ((D.pend.length : Int) - kk).toNat by omega, ?_⟩
        ((set_option smartUnfolding false in conv => whnf) <;> (repeat (first | exact True.intro | ((first | refine ⟨rfl, ?_⟩ | refine ar (by omega) (by omega) ?_ | refine ar8 (by omega) (by omega) ?_ | refine ix (by omega) ?_ | refine IdxVC.mk 0 rfl (by omega) ?_ | refine BytesVC.mk _ rfl ?_ | refine DivVC.mk (by omega) (by omega) ?_ | refine RemVC.mk (by omega) (by omega) ?_ | refine GhVC.mk _ _ _ rfl ?_); set_option smartUnfolding false in conv => whnf))))
      | false =>
        ((set_option smartUnfolding false in conv => whnf) <;> (repeat (first | exact True.intro | ((first | refine ⟨rfl, ?_⟩ | refine ar (by omega) (by omega) ?_ | refine ar8 (by omega) (by omega) ?_ | refine ix (by omega) ?_ | refine IdxVC.mk 0 rfl (by omega) ?_ | refine BytesVC.mk _ rfl ?_ | refine DivVC.mk (by omega) (by omega) ?_ | refine RemVC.mk (by omega) (by omega) ?_ | refine GhVC.mk _ _ _ rfl ?_); set_option smartUnfolding false in conv => whnf))))
        refine bxd (fun ht => ?_) (fun ht => ?_)
        · ((set_option smartUnfolding false in conv => whnf) <;> (repeat (first | exact True.intro | ((first | refine ⟨rfl, ?_⟩ | refine ar (by omega) (by omega) ?_ | refine ar8 (by omega) (by omega) ?_ | refine ix (by omega) ?_ | refine IdxVC.mk 0 rfl (by omega) ?_ | refine BytesVC.mk _ rfl ?_ | refine DivVC.mk (by omega) (by omega) ?_ | refine RemVC.mk (by omega) (by omega) ?_ | refine GhVC.mk _ _ _ rfl ?_); set_option smartUnfolding false in conv => whnf))))
          refine IdxVC.mk k hkk (by omega) ?_
          ((set_option smartUnfolding false in conv => whnf) <;> (repeat (first | exact True.intro | ((first | refine ⟨rfl, ?_⟩ | refine ar (by omega) (by omega) ?_ | refine ar8 (by omega) (by omega) ?_ | refine ix (by omega) ?_ | refine IdxVC.mk 0 rfl (by omega) ?_ | refine BytesVC.mk _ rfl ?_ | refine DivVC.mk (by omega) (by omega) ?_ | refine RemVC.mk (by omega) (by omega) ?_ | refine GhVC.mk _ _ _ rfl ?_); set_option smartUnfolding false in conv => whnf))))
          refine .mk z (by rw [Nat.zero_add]; exact hzk) ?_
          ((set_option smartUnfolding false in conv => whnf) <;> (repeat (first | exact True.intro | ((first | refine ⟨rfl, ?_⟩ | refine ar (by omega) (by omega) ?_ | refine ar8 (by omega) (by omega) ?_ | refine ix (by omega) ?_ | refine IdxVC.mk 0 rfl (by omega) ?_ | refine BytesVC.mk _ rfl ?_ | refine DivVC.mk (by omega) (by omega) ?_ | refine RemVC.mk (by omega) (by omega) ?_ | refine GhVC.mk _ _ _ rfl ?_); set_option smartUnfolding false in conv => whnf))))
          have hrm : remains l k = (min (max l.off 0) 512).toNat := by unfold remains; rw [← hbk, if_neg (by simp), if_pos (by omega)]
          refine call_con (N := []) (Rput_con _ bc lc D L hLl (by omega) ka kc z.1 z.2.1 z.2.2.1 z.2.2.2 hpd.2 hin (if 0 < (if l.off < 512 then l.off else 512) then (if l.off < 512 then l.off else 512) else 0) (min (max l.off 0) 512).toNat (by omega) (by split <;> split <;> omega)) ?_
          ((set_option smartUnfolding false in conv => whnf) <;> (repeat (first | exact True.intro | ((first | refine ⟨rfl, ?_⟩ | refine ar (by omega) (by omega) ?_ | refine ar8 (by omega) (by omega) ?_ | refine ix (by omega) ?_ | refine IdxVC.mk 0 rfl (by omega) ?_ | refine BytesVC.mk _ rfl ?_ | refine DivVC.mk (by omega) (by omega) ?_ | refine RemVC.mk (by omega) (by omega) ?_ | refine GhVC.mk _ _ _ rfl ?_); set_option smartUnfolding false in conv => whnf))))
          rintro x P2 H' - ⟨rfl, rfl, rfl⟩
          ((set_option smartUnfolding false in conv => whnf) <;> (repeat (first | exact True.intro | ((first | refine ⟨rfl, ?_⟩ | refine ar (by omega) (by omega) ?_ | refine ar8 (by omega) (by omega) ?_ | refine ix (by omega) ?_ | refine IdxVC.mk 0 rfl (by omega) ?_ | refine BytesVC.mk _ rfl ?_ | refine DivVC.mk (by omega) (by omega) ?_ | refine RemVC.mk (by omega) (by omega) ?_ | refine GhVC.mk _ _ _ rfl ?_); set_option smartUnfolding false in conv => whnf))))
          refine ⟨⟨(kk + 1, put L z.p (min (max l.off 0) 512).toNat), ⟨k + 1, by omega, by omega, hplen _, hstep _ hrm⟩⟩, show ((D.pend.length : Int) - (kk + 1)).toNat < ((D.pend.length : Int) - kk).toNat by omega, ?_⟩
          ((set_option smartUnfolding false in conv => whnf) <;> (repeat (first | exact True.intro | ((first | refine ⟨rfl, ?_⟩ | refine ar (by omega) (by omega) ?_ | refine ar8 (by omega) (by omega) ?_ | refine ix (by omega) ?_ | refine IdxVC.mk 0 rfl (by omega) ?_ | refine BytesVC.mk _ rfl ?_ | refine DivVC.mk (by omega) (by omega) ?_ | refine RemVC.mk (by omega) (by omega) ?_ | refine GhVC.mk _ _ _ rfl ?_); set_option smartUnfolding false in conv => whnf))))
        · have hrm : remains l k = 0 := by unfold remains; rw [← hbk, if_neg (by simp), if_neg (by omega)]
          ((set_option smartUnfolding false in conv => whnf) <;> (repeat (first | exact True.intro | ((first | refine ⟨rfl, ?_⟩ | refine ar (by omega) (by omega) ?_ | refine ar8 (by omega) (by omega) ?_ | refine ix (by omega) ?_ | refine IdxVC.mk 0 rfl (by omega) ?_ | refine BytesVC.mk _ rfl ?_ | refine DivVC.mk (by omega) (by omega) ?_ | refine RemVC.mk (by omega) (by omega) ?_ | refine GhVC.mk _ _ _ rfl ?_); set_option smartUnfolding false in conv => whnf))))
          have h0L : put L z.p 0 = L := by unfold put; simp [splice]
          refine ⟨⟨(kk + 1, L), ⟨k + 1, by omega, by omega, hLl, by rw [hstep _ hrm, h0L]⟩⟩, show ((D.pend.length : Int) - (kk + 1)).toNat < ((D.pend.length : Int) - kk).toNat by omega, ?_⟩
          ((set_option smartUnfolding false in conv => whnf) <;> (repeat (first | exact True.intro | ((first | refine ⟨rfl, ?_⟩ | refine ar (by omega) (by omega) ?_ | refine ar8 (by omega) (by omega) ?_ | refine ix (by omega) ?_ | refine IdxVC.mk 0 rfl (by omega) ?_ | refine BytesVC.mk _ rfl ?_ | refine DivVC.mk (by omega) (by omega) ?_ | refine RemVC.mk (by omega) (by omega) ?_ | refine GhVC.mk _ _ _ rfl ?_); set_option smartUnfolding false in conv => whnf))))
    · have hkm2 : k = D.pend.length := by omega
      have hLf : L = (D.fall l).img := by
        show L = fallFrom l 0 D.img D.pend
        rw [hfl, hkm2, List.drop_length]; rfl
      ((set_option smartUnfolding false in conv => whnf) <;> (repeat (first | exact True.intro | ((first | refine ⟨rfl, ?_⟩ | refine ar (by omega) (by omega) ?_ | refine ar8 (by omega) (by omega) ?_ | refine ix (by omega) ?_ | refine IdxVC.mk 0 rfl (by omega) ?_ | refine BytesVC.mk _ rfl ?_ | refine DivVC.mk (by omega) (by omega) ?_ | refine RemVC.mk (by omega) (by omega) ?_ | refine GhVC.mk _ _ _ rfl ?_); set_option smartUnfolding false in conv => whnf))))
      have hlen : D.img.length = (D.fall l).img.length := by rw [← hLf, hLl]
      have hres : ([.blk 300 95 [.sl 301 1 0 D.img.length bc, .raw (.slice none 0 0), .raw (.bool true), .raw (.int .i64 0), .rs ka kc (keepC D.loss.keep), .raw (.int .i64 D.loss.torn), .raw (.int .i64 D.loss.off), .raw (.int .i64 D.calls)], .row 301 5 bc (Eng.bytes L)] : List Ck) = [rB0 bc (D.fall l) ka kc, .row 301 5 bc (Eng.bytes (D.fall l).img)] := by rw [hlen, hLf]; rfl
      refine ⟨[.blk 300 95 [.sl 301 1 0 D.img.length bc, .raw (.slice none 0 0), .raw (.bool true), .raw (.int .i64 0), .rs ka kc (keepC D.loss.keep), .raw (.int .i64 D.loss.torn), .raw (.int .i64 D.loss.off), .raw (.int .i64 D.calls)], .row 301 5 bc (Eng.bytes L)], ?_⟩
      ((set_option smartUnfolding false in conv => whnf) <;> (repeat (first | exact True.intro | ((first | refine ⟨rfl, ?_⟩ | refine ar (by omega) (by omega) ?_ | refine ar8 (by omega) (by omega) ?_ | refine ix (by omega) ?_ | refine IdxVC.mk 0 rfl (by omega) ?_ | refine BytesVC.mk _ rfl ?_ | refine DivVC.mk (by omega) (by omega) ?_ | refine RemVC.mk (by omega) (by omega) ?_ | refine GhVC.mk _ _ _ rfl ?_); set_option smartUnfolding false in conv => whnf))))
      first | exact hres | exact ⟨rfl, hres⟩ | exact ⟨rfl, rfl, hres⟩
set_option maxRecDepth 100000 in
/-- CRASH, some writes pending -/
theorem RCrash_con (P : Hp) (bc lc : Nat) (D : Dev) (hd : D.down = false) (hD : D.ok) (hl2 : D.img.length ≤ 2097152) (ka : Option Addr) (kc : Nat) (zs : List Pr) (hz : zs.map Pr.p = D.pend) (hzl : zs.length ≤ 1000000) (l : Loss) (hl : l.ok) (la : Option Addr) (lac : Nat) :
    Con Try.prog [0, 300, 301] 65 [.ptr 300 0, .agg [.rs la lac (keepC l.keep), .raw (.int .i64 l.torn), .raw (.int .i64 l.off)]] P (rH bc lc D ka kc D.img zs) fun x P' H' => x = .raw (.int .i64 0) ∧ P' = P ∧ H' = [rB0 bc (D.fall l) ka kc, .row 301 5 bc (Eng.bytes (D.fall l).img)] := by
  refine Con.sub (con_of_fun T_good (by kernel_rfl) Try.call65 Try.func65 (by kernel_rfl) (by show 2 ≤ _; decide +kernel) ?_)
  ((set_option smartUnfolding false in conv => whnf) <;> (repeat (first | exact True.intro | ((first | refine ⟨rfl, ?_⟩ | refine ar (by omega) (by omega) ?_ | refine ar8 (by omega) (by omega) ?_ | refine ix (by omega) ?_ | refine IdxVC.mk 0 rfl (by omega) ?_ | refine BytesVC.mk _ rfl ?_ | refine DivVC.mk (by omega) (by omega) ?_ | refine RemVC.mk (by omega) (by omega) ?_ | refine GhVC.mk _ _ _ rfl ?_); set_option smartUnfolding false in conv => whnf))))
  cases hd2 : D.down with
  | true => exact absurd (hd.symm.trans hd2) (by simp)
  | false =>
    ((set_option smartUnfolding false in conv => whnf) <;> (repeat (first | exact True.intro | ((first | refine ⟨rfl, ?_⟩ | refine ar (by omega) (by omega) ?_ | refine ar8 (by omega) (by omega) ?_ | refine ix (by omega) ?_ | refine IdxVC.mk 0 rfl (by omega) ?_ | refine BytesVC.mk _ rfl ?_ | refine DivVC.mk (by omega) (by omega) ?_ | refine RemVC.mk (by omega) (by omega) ?_ | refine GhVC.mk _ _ _ rfl ?_); set_option smartUnfolding false in conv => whnf))))
    refine call_con (N := []) (Rfalls_con _ bc lc D hD hl2 ka kc zs hz hzl l hl la lac) ?_
    ((set_option smartUnfolding false in conv => whnf) <;> (repeat (first | exact True.intro | ((first | refine ⟨rfl, ?_⟩ | refine ar (by omega) (by omega) ?_ | refine ar8 (by omega) (by omega) ?_ | refine ix (by omega) ?_ | refine IdxVC.mk 0 rfl (by omega) ?_ | refine BytesVC.mk _ rfl ?_ | refine DivVC.mk (by omega) (by omega) ?_ | refine RemVC.mk (by omega) (by omega) ?_ | refine GhVC.mk _ _ _ rfl ?_); set_option smartUnfolding false in conv => whnf))))
    rintro x P1 H' - ⟨rfl, rfl, rfl⟩
    ((set_option smartUnfolding false in conv => whnf) <;> (repeat (first | exact True.intro | ((first | refine ⟨rfl, ?_⟩ | refine ar (by omega) (by omega) ?_ | refine ar8 (by omega) (by omega) ?_ | refine ix (by omega) ?_ | refine IdxVC.mk 0 rfl (by omega) ?_ | refine BytesVC.mk _ rfl ?_ | refine DivVC.mk (by omega) (by omega) ?_ | refine RemVC.mk (by omega) (by omega) ?_ | refine GhVC.mk _ _ _ rfl ?_); set_option smartUnfolding false in conv => whnf))))
    refine ⟨[rB0 bc (D.fall l) ka kc, .row 301 5 bc (Eng.bytes (D.fall l).img)], ?_⟩
    ((set_option smartUnfolding false in conv => whnf) <;> (repeat (first | exact True.intro | ((first | refine ⟨rfl, ?_⟩ | refine ar (by omega) (by omega) ?_ | refine ar8 (by omega) (by omega) ?_ | refine ix (by omega) ?_ | refine IdxVC.mk 0 rfl (by omega) ?_ | refine BytesVC.mk _ rfl ?_ | refine DivVC.mk (by omega) (by omega) ?_ | refine RemVC.mk (by omega) (by omega) ?_ | refine GhVC.mk _ _ _ rfl ?_); set_option smartUnfolding false in conv => whnf))))
set_option maxRecDepth 100000 in
set_option maxHeartbeats 1000000 in
/-- FLUSH, some writes pending -/
theorem RFlush_con (P : Hp) (bc lc : Nat) (D : Dev) (hd : D.down = false) (hD : D.ok) (hl2 : D.img.length ≤ 2097152) (c0 : 0 ≤ D.calls) (c1 : D.calls ≤ 1000000000) (a0 : 0 ≤ D.armed) (a1 : D.armed ≤ 9223372036854775807) (hll : D.loss.ok) (ka : Option Addr) (kc : Nat) (zs : List Pr) (hz : zs.map Pr.p = D.pend) (hzl : zs.length ≤ 1000000) :
    Con Try.prog [0, 300, 301] 48 [.ptr 300 0] P (rH bc lc D ka kc D.img zs) fun x P' H' => x = .raw (.int .i64 D.flush.2) ∧ P' = P ∧ H' = [rB0 bc D.flush.1 ka kc, .row 301 5 bc (Eng.bytes D.flush.1.img)] := by
  have hpl : D.pend.length = zs.length := by rw [← hz, List.length_map]
  obtain ⟨q, hq⟩ : ∃ q, q = D.flush := ⟨_, rfl⟩
  rw [← hq]
  obtain ⟨bf, hbf⟩ : ∃ b, b = D.fires := ⟨_, rfl⟩
  have hfi := fun P => Rfires_con P bc lc D ka kc c0 c1 a0 a1
  rw [← hbf] at hfi
  refine Con.sub (con_of_fun T_good (by kernel_rfl) Try.call48 Try.func48 (by kernel_rfl) (by show 1 ≤ _; decide +kernel) ?_)
  ((set_option smartUnfolding false in conv => whnf) <;> (repeat (first | exact True.intro | ((first | refine ⟨rfl, ?_⟩ | refine ar (by omega) (by omega) ?_ | refine ar8 (by omega) (by omega) ?_ | refine ix (by omega) ?_ | refine IdxVC.mk 0 rfl (by omega) ?_ | refine BytesVC.mk _ rfl ?_ | refine DivVC.mk (by omega) (by omega) ?_ | refine RemVC.mk (by omega) (by omega) ?_ | refine GhVC.mk _ _ _ rfl ?_); set_option smartUnfolding false in conv => whnf))))
  cases hd2 : D.down with
  | true => exact absurd (hd.symm.trans hd2) (by simp)
  | false =>
    ((set_option smartUnfolding false in conv => whnf) <;> (repeat (first | exact True.intro | ((first | refine ⟨rfl, ?_⟩ | refine ar (by omega) (by omega) ?_ | refine ar8 (by omega) (by omega) ?_ | refine ix (by omega) ?_ | refine IdxVC.mk 0 rfl (by omega) ?_ | refine BytesVC.mk _ rfl ?_ | refine DivVC.mk (by omega) (by omega) ?_ | refine RemVC.mk (by omega) (by omega) ?_ | refine GhVC.mk _ _ _ rfl ?_); set_option smartUnfolding false in conv => whnf))))
    refine call_con (N := []) (hfi _) ?_
    ((set_option smartUnfolding false in conv => whnf) <;> (repeat (first | exact True.intro | ((first | refine ⟨rfl, ?_⟩ | refine ar (by omega) (by omega) ?_ | refine ar8 (by omega) (by omega) ?_ | refine ix (by omega) ?_ | refine IdxVC.mk 0 rfl (by omega) ?_ | refine BytesVC.mk _ rfl ?_ | refine DivVC.mk (by omega) (by omega) ?_ | refine RemVC.mk (by omega) (by omega) ?_ | refine GhVC.mk _ _ _ rfl ?_); set_option smartUnfolding false in conv => whnf))))
    rintro x P1 H' - ⟨rfl, rfl, rfl⟩
    cases bf with
    | true =>
      have hq2 : q = (D.count.fall D.loss, 80) := by rw [hq]; unfold Dev.flush; rw [hd, if_neg (by simp), ← hbf, if_pos rfl]
      rw [hq2]
      ((set_option smartUnfolding false in conv => whnf) <;> (repeat (first | exact True.intro | ((first | refine ⟨rfl, ?_⟩ | refine ar (by omega) (by omega) ?_ | refine ar8 (by omega) (by omega) ?_ | refine ix (by omega) ?_ | refine IdxVC.mk 0 rfl (by omega) ?_ | refine BytesVC.mk _ rfl ?_ | refine DivVC.mk (by omega) (by omega) ?_ | refine RemVC.mk (by omega) (by omega) ?_ | refine GhVC.mk _ _ _ rfl ?_); set_option smartUnfolding false in conv => whnf))))
      refine call_con (N := []) (Rfalls_con _ bc lc D.count (Dev.count_ok hD) hl2 ka kc zs hz hzl D.loss hll ka kc) ?_
      ((set_option smartUnfolding false in conv => whnf) <;> (repeat (first | exact True.intro | ((first | refine ⟨rfl, ?_⟩ | refine ar (by omega) (by omega) ?_ | refine ar8 (by omega) (by omega) ?_ | refine ix (by omega) ?_ | refine IdxVC.mk 0 rfl (by omega) ?_ | refine BytesVC.mk _ rfl ?_ | refine DivVC.mk (by omega) (by omega) ?_ | refine RemVC.mk (by omega) (by omega) ?_ | refine GhVC.mk _ _ _ rfl ?_); set_option smartUnfolding false in conv => whnf))))
      rintro x P2 H' - ⟨rfl, rfl, rfl⟩
      ((set_option smartUnfolding false in conv => whnf) <;> (repeat (first | exact True.intro | ((first | refine ⟨rfl, ?_⟩ | refine ar (by omega) (by omega) ?_ | refine ar8 (by omega) (by omega) ?_ | refine ix (by omega) ?_ | refine IdxVC.mk 0 rfl (by omega) ?_ | refine BytesVC.mk _ rfl ?_ | refine DivVC.mk (by omega) (by omega) ?_ | refine RemVC.mk (by omega) (by omega) ?_ | refine GhVC.mk _ _ _ rfl ?_); set_option smartUnfolding false in conv => whnf))))
      refine ⟨[rB0 bc (D.count.fall D.loss) ka kc, .row 301 5 bc (Eng.bytes (D.count.fall D.loss).img)], ?_⟩
      ((set_option smartUnfolding false in conv => whnf) <;> (repeat (first | exact True.intro | ((first | refine ⟨rfl, ?_⟩ | refine ar (by omega) (by omega) ?_ | refine ar8 (by omega) (by omega) ?_ | refine ix (by omega) ?_ | refine IdxVC.mk 0 rfl (by omega) ?_ | refine BytesVC.mk _ rfl ?_ | refine DivVC.mk (by omega) (by omega) ?_ | refine RemVC.mk (by omega) (by omega) ?_ | refine GhVC.mk _ _ _ rfl ?_); set_option smartUnfolding false in conv => whnf))))
    | false =>
      have hq2 : q = ({ D.count with img := flushed D.img D.pend, pend := [] }, 0) := by rw [hq]; unfold Dev.flush; rw [hd, if_neg (by simp), ← hbf, if_neg (by simp)]
      rw [hq2]
      ((set_option smartUnfolding false in conv => whnf) <;> (repeat (first | exact True.intro | ((first | refine ⟨rfl, ?_⟩ | refine ar (by omega) (by omega) ?_ | refine ar8 (by omega) (by omega) ?_ | refine ix (by omega) ?_ | refine IdxVC.mk 0 rfl (by omega) ?_ | refine BytesVC.mk _ rfl ?_ | refine DivVC.mk (by omega) (by omega) ?_ | refine RemVC.mk (by omega) (by omega) ?_ | refine GhVC.mk _ _ _ rfl ?_); set_option smartUnfolding false in conv => whnf))))
      have hplen : ∀ k, (flushed D.img (D.pend.take k)).length = D.img.length := fun k => flushed_length _ _ fun p hp => hD.pend p (List.mem_of_mem_take hp)
      refine .mk (β := { x : Int × List UInt8 // ∃ k : Nat, x.1 = (k : Int) ∧ k ≤ D.pend.length ∧ x.2 = flushed D.img (D.pend.take k) }) (fun ⟨(kk, L), _⟩ => ⟨[(4, .raw (.int .i64 kk)), (0, .ptr 300 0)], P1, rH bc lc D.count ka kc L zs⟩) (fun b => ((D.pend.length : Int) - b.1.1).toNat) ⟨(0, D.img), ⟨0, rfl, Nat.zero_le _, rfl⟩⟩ ?_ ?_
      · ((set_option smartUnfolding false in conv => whnf) <;> (repeat (first | exact True.intro | ((first | refine ⟨rfl, ?_⟩ | refine ar (by omega) (by omega) ?_ | refine ar8 (by omega) (by omega) ?_ | refine ix (by omega) ?_ | refine IdxVC.mk 0 rfl (by omega) ?_ | refine BytesVC.mk _ rfl ?_ | refine DivVC.mk (by omega) (by omega) ?_ | refine RemVC.mk (by omega) (by omega) ?_ | refine GhVC.mk _ _ _ rfl ?_); set_option smartUnfolding false in conv => whnf))))
      · rintro ⟨⟨kk, L⟩, hk'⟩ -
        obtain ⟨k, hkk, hkm, hL⟩ : ∃ k : Nat, kk = (k : Int) ∧ k ≤ D.pend.length ∧ L = flushed D.img (D.pend.take k) := hk'
        have hLl : L.length = D.img.length := by rw [hL]; exact hplen k
        ((set_option smartUnfolding false in conv => whnf) <;> (repeat (first | exact True.intro | ((first | refine ⟨rfl, ?_⟩ | refine ar (by omega) (by omega) ?_ | refine ar8 (by omega) (by omega) ?_ | refine ix (by omega) ?_ | refine IdxVC.mk 0 rfl (by omega) ?_ | refine BytesVC.mk _ rfl ?_ | refine DivVC.mk (by omega) (by omega) ?_ | refine RemVC.mk (by omega) (by omega) ?_ | refine GhVC.mk _ _ _ rfl ?_); set_option smartUnfolding false in conv => whnf))))
        refine bxd (fun h => ?_) (fun h => ?_)
        · have hkl : k < D.pend.length := by have h : kk < (D.pend.length : Int) := h; omega
          obtain ⟨z, hzk⟩ : ∃ z, zs[k]? = some z := ⟨zs[k]'(by omega), List.getElem?_eq_getElem _⟩
          have hpk : D.pend[k]? = some z.p := by rw [← hz, List.getElem?_map, hzk]; rfl
          have hpd := hD.pend z.p (List.mem_of_getElem? hpk)
          have hin : z.p.1 * 512 + 512 ≤ L.length := by rw [hLl]; exact hpd.1
          ((set_option smartUnfolding false in conv => whnf) <;> (repeat (first | exact True.intro | ((first | refine ⟨rfl, ?_⟩ | refine ar (by omega) (by omega) ?_ | refine ar8 (by omega) (by omega) ?_ | refine ix (by omega) ?_ | refine IdxVC.mk 0 rfl (by omega) ?_ | refine BytesVC.mk _ rfl ?_ | refine DivVC.mk (by omega) (by omega) ?_ | refine RemVC.mk (by omega) (by omega) ?_ | refine GhVC.mk _ _ _ rfl ?_); set_option smartUnfolding false in conv => whnf))))
          refine IdxVC.mk k hkk (by show k < D.pend.length; omega) ?_
          ((set_option smartUnfolding false in conv => whnf) <;> (repeat (first | exact True.intro | ((first | refine ⟨rfl, ?_⟩ | refine ar (by omega) (by omega) ?_ | refine ar8 (by omega) (by omega) ?_ | refine ix (by omega) ?_ | refine IdxVC.mk 0 rfl (by omega) ?_ | refine BytesVC.mk _ rfl ?_ | refine DivVC.mk (by omega) (by omega) ?_ | refine RemVC.mk (by omega) (by omega) ?_ | refine GhVC.mk _ _ _ rfl ?_); set_option smartUnfolding false in conv => whnf))))
          refine .mk z (by rw [Nat.zero_add]; exact hzk) ?_
          ((set_option smartUnfolding false in conv => whnf) <;> (repeat (first | exact True.intro | ((first | refine ⟨rfl, ?_⟩ | refine ar (by omega) (by omega) ?_ | refine ar8 (by omega) (by omega) ?_ | refine ix (by omega) ?_ | refine IdxVC.mk 0 rfl (by omega) ?_ | refine BytesVC.mk _ rfl ?_ | refine DivVC.mk (by omega) (by omega) ?_ | refine RemVC.mk (by omega) (by omega) ?_ | refine GhVC.mk _ _ _ rfl ?_); set_option smartUnfolding false in conv => whnf))))
          refine call_con (N := []) (Rput_con _ bc lc D.count L hLl (by omega) ka kc z.1 z.2.1 z.2.2.1 z.2.2.2 hpd.2 hin 512 512 (Nat.le_refl _) rfl) ?_
          ((set_option smartUnfolding false in conv => whnf) <;> (repeat (first | exact True.intro | ((first | refine ⟨rfl, ?_⟩ | refine ar (by omega) (by omega) ?_ | refine ar8 (by omega) (by omega) ?_ | refine ix (by omega) ?_ | refine IdxVC.mk 0 rfl (by omega) ?_ | refine BytesVC.mk _ rfl ?_ | refine DivVC.mk (by omega) (by omega) ?_ | refine RemVC.mk (by omega) (by omega) ?_ | refine GhVC.mk _ _ _ rfl ?_); set_option smartUnfolding false in conv => whnf))))
          rintro x P2 H' - ⟨rfl, rfl, rfl⟩
          ((set_option smartUnfolding false in conv => whnf) <;> (repeat (first | exact True.intro | ((first | refine ⟨rfl, ?_⟩ | refine ar (by omega) (by omega) ?_ | refine ar8 (by omega) (by omega) ?_ | refine ix (by omega) ?_ | refine IdxVC.mk 0 rfl (by omega) ?_ | refine BytesVC.mk _ rfl ?_ | refine DivVC.mk (by omega) (by omega) ?_ | refine RemVC.mk (by omega) (by omega) ?_ | refine GhVC.mk _ _ _ rfl ?_); set_option smartUnfolding false in conv => whnf))))
          refine ⟨⟨(kk + 1, put L z.p 512), ⟨k + 1, by omega, by omega, by rw [flushed_take _ _ _ _ hpk, ← hL]⟩⟩, show ((D.pend.length : Int) - (kk + 1)).toNat < ((D.pend.length : Int) - kk).toNat by omega, ?_⟩
          ((set_option smartUnfolding false in conv => whnf) <;> (repeat (first | exact True.intro | ((first | refine ⟨rfl, ?_⟩ | refine ar (by omega) (by omega) ?_ | refine ar8 (by omega) (by omega) ?_ | refine ix (by omega) ?_ | refine IdxVC.mk 0 rfl (by omega) ?_ | refine BytesVC.mk _ rfl ?_ | refine DivVC.mk (by omega) (by omega) ?_ | refine RemVC.mk (by omega) (by omega) ?_ | refine GhVC.mk _ _ _ rfl ?_); set_option smartUnfolding false in conv => whnf))))
        · have hkm2 : k = D.pend.length := by have h : ¬ kk < (D.pend.length : Int) := h; omega
          have hLf : L = flushed D.img D.pend := by rw [hL, hkm2, List.take_length]
          have hlen : D.img.length = (flushed D.img D.pend).length := by rw [← hLf, hLl]
          ((set_option smartUnfolding false in conv => whnf) <;> (repeat (first | exact True.intro | ((first | refine ⟨rfl, ?_⟩ | refine ar (by omega) (by omega) ?_ | refine ar8 (by omega) (by omega) ?_ | refine ix (by omega) ?_ | refine IdxVC.mk 0 rfl (by omega) ?_ | refine BytesVC.mk _ rfl ?_ | refine DivVC.mk (by omega) (by omega) ?_ | refine RemVC.mk (by omega) (by omega) ?_ | refine GhVC.mk _ _ _ rfl ?_); set_option smartUnfolding false in conv => whnf))))
          have hres : ([.blk 300 95 [.sl 301 1 0 D.img.length bc, .raw (.slice none 0 0), .raw (.bool D.count.down), .raw (.int .i64 D.count.armed), .rs ka kc (keepC D.loss.keep), .raw (.int .i64 D.loss.torn), .raw (.int .i64 D.loss.off), .raw (.int .i64 D.count.calls)], .row 301 5 bc (Eng.bytes L)] : List Ck) = [rB0 bc { D.count with img := flushed D.img D.pend, pend := [] } ka kc, .row 301 5 bc (Eng.bytes (flushed D.img D.pend))] := by rw [hlen, hLf]; rfl
          refine ⟨[.blk 300 95 [.sl 301 1 0 D.img.length bc, .raw (.slice none 0 0), .raw (.bool D.count.down), .raw (.int .i64 D.count.armed), .rs ka kc (keepC D.loss.keep), .raw (.int .i64 D.loss.torn), .raw (.int .i64 D.loss.off), .raw (.int .i64 D.count.calls)], .row 301 5 bc (Eng.bytes L)], ?_⟩
          ((set_option smartUnfolding false in conv => whnf) <;> (repeat (first | exact True.intro | ((first | refine ⟨rfl, ?_⟩ | refine ar (by omega) (by omega) ?_ | refine ar8 (by omega) (by omega) ?_ | refine ix (by omega) ?_ | refine IdxVC.mk 0 rfl (by omega) ?_ | refine BytesVC.mk _ rfl ?_ | refine DivVC.mk (by omega) (by omega) ?_ | refine RemVC.mk (by omega) (by omega) ?_ | refine GhVC.mk _ _ _ rfl ?_); set_option smartUnfolding false in conv => whnf))))
          first | exact hres | exact ⟨rfl, hres⟩ | exact ⟨rfl, rfl, hres⟩
end Go.Proofs.Ytpdppacafkdgdaa
