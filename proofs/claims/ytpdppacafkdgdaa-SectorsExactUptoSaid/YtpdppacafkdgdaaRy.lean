/- The reference device (letheref08), by the engine: one form for all that is pending; Write, Read, New, Load. -/
import Derived.Test.YtpdppacafkdgdaaRx
import Derived.Test.YtpdppacafkdgdaaSy
set_option linter.unusedVariables false
set_option linter.unusedSimpArgs false
namespace Go.Proofs.Ytpdppacafkdgdaa
open Go Go.RowKit Go.Le Go.Eng
set_option maxRecDepth 100000 in
theorem RfallsH_con (P : Hp) (bc lc : Nat) (D : Dev) (hD : D.ok) (hl2 : D.img.length ≤ 2097152) (ka : Option Addr) (kc : Nat) (zs : List Pr) (hz : zs.map Pr.p = D.pend) (hzl : zs.length ≤ 1000000) (l : Loss) (hl : l.ok) (la : Option Addr) (lac : Nat) :
    Con Try.prog [0, 300, 301] 62 [.ptr 300 0, .agg [.rs la lac (keepC l.keep), .raw (.int .i64 l.torn), .raw (.int .i64 l.off)]] P (rH bc lc D ka kc D.img zs) fun x P' H' => x = .tup [] ∧ P' = P ∧ H' = rH bc 0 (D.fall l) ka kc (D.fall l).img [] := by
  refine Con.sub (Con.unnil 300 1 302 76 (pdC []) rfl rfl ((Rfalls_con P bc lc D hD hl2 ka kc zs hz hzl l hl la lac).mono ?_))
  rintro x P' H' ⟨rfl, rfl, rfl⟩
  refine ⟨rfl, ?_⟩
  ((set_option smartUnfolding false in conv => whnf) <;> (repeat (first | exact True.intro | ((first | refine ⟨rfl, ?_⟩ | refine ar (by omega) (by omega) ?_ | refine ar8 (by omega) (by omega) ?_ | refine ix (by omega) ?_ | refine IdxVC.mk 0 rfl (by omega) ?_ | refine BytesVC.mk _ rfl ?_ | refine DivVC.mk (by omega) (by omega) ?_ | refine RemVC.mk (by omega) (by omega) ?_ | refine GhVC.mk _ _ _ rfl ?_); set_option smartUnfolding false in conv => whnf))))
  refine ⟨rH bc 0 (D.fall l) ka kc (D.fall l).img [], ?_⟩
  ((set_option smartUnfolding false in conv => whnf) <;> (repeat (first | exact True.intro | ((first | refine ⟨rfl, ?_⟩ | refine ar (by omega) (by omega) ?_ | refine ar8 (by omega) (by omega) ?_ | refine ix (by omega) ?_ | refine IdxVC.mk 0 rfl (by omega) ?_ | refine BytesVC.mk _ rfl ?_ | refine DivVC.mk (by omega) (by omega) ?_ | refine RemVC.mk (by omega) (by omega) ?_ | refine GhVC.mk _ _ _ rfl ?_); set_option smartUnfolding false in conv => whnf))))
set_option maxRecDepth 100000 in
theorem RCrashH_con (P : Hp) (bc lc : Nat) (D : Dev) (hd : D.down = false) (hD : D.ok) (hl2 : D.img.length ≤ 2097152) (ka : Option Addr) (kc : Nat) (zs : List Pr) (hz : zs.map Pr.p = D.pend) (hzl : zs.length ≤ 1000000) (l : Loss) (hl : l.ok) (la : Option Addr) (lac : Nat) :
    Con Try.prog [0, 300, 301] 65 [.ptr 300 0, .agg [.rs la lac (keepC l.keep), .raw (.int .i64 l.torn), .raw (.int .i64 l.off)]] P (rH bc lc D ka kc D.img zs) fun x P' H' => x = .raw (.int .i64 0) ∧ P' = P ∧ H' = rH bc 0 (D.fall l) ka kc (D.fall l).img [] := by
  refine Con.sub (Con.unnil 300 1 302 76 (pdC []) rfl rfl ((RCrash_con P bc lc D hd hD hl2 ka kc zs hz hzl l hl la lac).mono ?_))
  rintro x P' H' ⟨rfl, rfl, rfl⟩
  refine ⟨rfl, ?_⟩
  ((set_option smartUnfolding false in conv => whnf) <;> (repeat (first | exact True.intro | ((first | refine ⟨rfl, ?_⟩ | refine ar (by omega) (by omega) ?_ | refine ar8 (by omega) (by omega) ?_ | refine ix (by omega) ?_ | refine IdxVC.mk 0 rfl (by omega) ?_ | refine BytesVC.mk _ rfl ?_ | refine DivVC.mk (by omega) (by omega) ?_ | refine RemVC.mk (by omega) (by omega) ?_ | refine GhVC.mk _ _ _ rfl ?_); set_option smartUnfolding false in conv => whnf))))
  refine ⟨rH bc 0 (D.fall l) ka kc (D.fall l).img [], ?_⟩
  ((set_option smartUnfolding false in conv => whnf) <;> (repeat (first | exact True.intro | ((first | refine ⟨rfl, ?_⟩ | refine ar (by omega) (by omega) ?_ | refine ar8 (by omega) (by omega) ?_ | refine ix (by omega) ?_ | refine IdxVC.mk 0 rfl (by omega) ?_ | refine BytesVC.mk _ rfl ?_ | refine DivVC.mk (by omega) (by omega) ?_ | refine RemVC.mk (by omega) (by omega) ?_ | refine GhVC.mk _ _ _ rfl ?_); set_option smartUnfolding false in conv => whnf))))
theorem flush_pend {D : Dev} (hd : D.down = false) : D.flush.1.pend = [] := by
  unfold Dev.flush
  rw [hd, if_neg (by simp)]
  split <;> rfl
set_option maxRecDepth 100000 in
theorem RFlushH_con (P : Hp) (bc lc : Nat) (D : Dev) (hd : D.down = false) (hD : D.ok) (hl2 : D.img.length ≤ 2097152) (c0 : 0 ≤ D.calls) (c1 : D.calls ≤ 1000000000) (a0 : 0 ≤ D.armed) (a1 : D.armed ≤ 9223372036854775807) (hll : D.loss.ok) (ka : Option Addr) (kc : Nat) (zs : List Pr) (hz : zs.map Pr.p = D.pend) (hzl : zs.length ≤ 1000000) :
    Con Try.prog [0, 300, 301] 48 [.ptr 300 0] P (rH bc lc D ka kc D.img zs) fun x P' H' => x = .raw (.int .i64 D.flush.2) ∧ P' = P ∧ H' = rH bc 0 D.flush.1 ka kc D.flush.1.img [] := by
  refine Con.sub (Con.unnil 300 1 302 76 (pdC []) rfl rfl ((RFlush_con P bc lc D hd hD hl2 c0 c1 a0 a1 hll ka kc zs hz hzl).mono ?_))
  rintro x P' H' ⟨rfl, rfl, rfl⟩
  refine ⟨rfl, ?_⟩
  have hp := flush_pend hd
  obtain ⟨q, hq⟩ : ∃ q, q = D.flush.1 := ⟨_, rfl⟩
  rw [← hq] at hp ⊢
  have he : rH bc 0 q ka kc q.img [] = [.blk 300 95 [.sl 301 1 0 q.img.length bc, .sl 302 2 0 0 0, .raw (.bool q.down), .raw (.int .i64 q.armed), .rs ka kc (keepC q.loss.keep), .raw (.int .i64 q.loss.torn), .raw (.int .i64 q.loss.off), .raw (.int .i64 q.calls)], .row 301 5 bc (Eng.bytes q.img), .row 302 76 0 (pdC [])] := by
    show [Ck.blk 300 _ [_, .sl 302 2 0 q.pend.length 0, _, _, _, _, _, _], _, _] = _
    rw [hp]; rfl
  rw [he]
  ((set_option smartUnfolding false in conv => whnf) <;> (repeat (first | exact True.intro | ((first | refine ⟨rfl, ?_⟩ | refine ar (by omega) (by omega) ?_ | refine ar8 (by omega) (by omega) ?_ | refine ix (by omega) ?_ | refine IdxVC.mk 0 rfl (by omega) ?_ | refine BytesVC.mk _ rfl ?_ | refine DivVC.mk (by omega) (by omega) ?_ | refine RemVC.mk (by omega) (by omega) ?_ | refine GhVC.mk _ _ _ rfl ?_); set_option smartUnfolding false in conv => whnf))))
  refine ⟨[.blk 300 95 [.sl 301 1 0 q.img.length bc, .sl 302 2 0 0 0, .raw (.bool q.down), .raw (.int .i64 q.armed), .rs ka kc (keepC q.loss.keep), .raw (.int .i64 q.loss.torn), .raw (.int .i64 q.loss.off), .raw (.int .i64 q.calls)], .row 301 5 bc (Eng.bytes q.img), .row 302 76 0 (pdC [])], ?_⟩
  ((set_option smartUnfolding false in conv => whnf) <;> (repeat (first | exact True.intro | ((first | refine ⟨rfl, ?_⟩ | refine ar (by omega) (by omega) ?_ | refine ar8 (by omega) (by omega) ?_ | refine ix (by omega) ?_ | refine IdxVC.mk 0 rfl (by omega) ?_ | refine BytesVC.mk _ rfl ?_ | refine DivVC.mk (by omega) (by omega) ?_ | refine RemVC.mk (by omega) (by omega) ?_ | refine GhVC.mk _ _ _ rfl ?_); set_option smartUnfolding false in conv => whnf))))
set_option maxRecDepth 100000 in
theorem RDownE_con (P : Hp) (bc lc : Nat) (D : Dev) (hd : D.down = true) (ka : Option Addr) (kc : Nat) :
    Con Try.prog [0, 300, 301, 302] 48 [.ptr 300 0] P [rB bc lc D ka kc] fun x P' H' => x = .raw (.int .i64 80) ∧ P' = P ∧ H' = [rB bc lc D ka kc] := by
  refine con_of_fun T_good (by kernel_rfl) Try.call48 Try.func48 (by kernel_rfl) (by show 1 ≤ _; decide +kernel) ?_
  ((set_option smartUnfolding false in conv => whnf) <;> (repeat (first | exact True.intro | ((first | refine ⟨rfl, ?_⟩ | refine ar (by omega) (by omega) ?_ | refine ar8 (by omega) (by omega) ?_ | refine ix (by omega) ?_ | refine IdxVC.mk 0 rfl (by omega) ?_ | refine BytesVC.mk _ rfl ?_ | refine DivVC.mk (by omega) (by omega) ?_ | refine RemVC.mk (by omega) (by omega) ?_ | refine GhVC.mk _ _ _ rfl ?_); set_option smartUnfolding false in conv => whnf))))
  cases hd2 : D.down with
  | false => exact absurd (hd.symm.trans hd2) (by simp)
  | true => ((set_option smartUnfolding false in conv => whnf) <;> (repeat (first | exact True.intro | ((first | refine ⟨rfl, ?_⟩ | refine ar (by omega) (by omega) ?_ | refine ar8 (by omega) (by omega) ?_ | refine ix (by omega) ?_ | refine IdxVC.mk 0 rfl (by omega) ?_ | refine BytesVC.mk _ rfl ?_ | refine DivVC.mk (by omega) (by omega) ?_ | refine RemVC.mk (by omega) (by omega) ?_ | refine GhVC.mk _ _ _ rfl ?_); set_option smartUnfolding false in conv => whnf))))
set_option maxRecDepth 100000 in
theorem RCrashE_con (P : Hp) (bc lc : Nat) (D : Dev) (hd : D.down = true) (ka : Option Addr) (kc : Nat) (l : Loss) (la : Option Addr) (lac : Nat) :
    Con Try.prog [0, 300, 301, 302] 65 [.ptr 300 0, .agg [.rs la lac (keepC l.keep), .raw (.int .i64 l.torn), .raw (.int .i64 l.off)]] P [rB bc lc D ka kc] fun x P' H' => x = .raw (.int .i64 80) ∧ P' = P ∧ H' = [rB bc lc D ka kc] := by
  refine Con.sub (con_of_fun T_good (by kernel_rfl) Try.call65 Try.func65 (by kernel_rfl) (by show 2 ≤ _; decide +kernel) ?_)
  ((set_option smartUnfolding false in conv => whnf) <;> (repeat (first | exact True.intro | ((first | refine ⟨rfl, ?_⟩ | refine ar (by omega) (by omega) ?_ | refine ar8 (by omega) (by omega) ?_ | refine ix (by omega) ?_ | refine IdxVC.mk 0 rfl (by omega) ?_ | refine BytesVC.mk _ rfl ?_ | refine DivVC.mk (by omega) (by omega) ?_ | refine RemVC.mk (by omega) (by omega) ?_ | refine GhVC.mk _ _ _ rfl ?_); set_option smartUnfolding false in conv => whnf))))
  cases hd2 : D.down with
  | false => exact absurd (hd.symm.trans hd2) (by simp)
  | true =>
    ((set_option smartUnfolding false in conv => whnf) <;> (repeat (first | exact True.intro | ((first | refine ⟨rfl, ?_⟩ | refine ar (by omega) (by omega) ?_ | refine ar8 (by omega) (by omega) ?_ | refine ix (by omega) ?_ | refine IdxVC.mk 0 rfl (by omega) ?_ | refine BytesVC.mk _ rfl ?_ | refine DivVC.mk (by omega) (by omega) ?_ | refine RemVC.mk (by omega) (by omega) ?_ | refine GhVC.mk _ _ _ rfl ?_); set_option smartUnfolding false in conv => whnf))))
    refine ⟨[rB bc lc D ka kc], ?_⟩
    ((set_option smartUnfolding false in conv => whnf) <;> (repeat (first | exact True.intro | ((first | refine ⟨rfl, ?_⟩ | refine ar (by omega) (by omega) ?_ | refine ar8 (by omega) (by omega) ?_ | refine ix (by omega) ?_ | refine IdxVC.mk 0 rfl (by omega) ?_ | refine BytesVC.mk _ rfl ?_ | refine DivVC.mk (by omega) (by omega) ?_ | refine RemVC.mk (by omega) (by omega) ?_ | refine GhVC.mk _ _ _ rfl ?_); set_option smartUnfolding false in conv => whnf))))
set_option maxRecDepth 100000 in
/-- bytes in new memory -/
theorem copiedW_con (P : Hp) (a : Option Addr) (cap : Nat) (l : List UInt8) (hl : l.length ≤ 4294967296) :
    Con Try.prog [] 57 [.bs a cap l] P [] fun x P' H' => ∃ c, l.length ≤ c ∧ x = .sl 40 1 0 l.length c ∧ P' = P ∧ H' = [.row 40 5 c (Eng.bytes l)] := by
  refine Con.ren (con_of_fun T_good (by kernel_rfl) Try.call57 Try.func57 (by kernel_rfl) (by show 1 ≤ _; decide +kernel) ?_)
  ((set_option smartUnfolding false in conv => whnf) <;> (repeat (first | exact True.intro | ((first | refine ⟨rfl, ?_⟩ | refine ar (by omega) (by omega) ?_ | refine ar8 (by omega) (by omega) ?_ | refine ix (by omega) ?_ | refine IdxVC.mk 0 rfl (by omega) ?_ | refine BytesVC.mk _ rfl ?_ | refine DivVC.mk (by omega) (by omega) ?_ | refine RemVC.mk (by omega) (by omega) ?_ | refine GhVC.mk _ _ _ rfl ?_); set_option smartUnfolding false in conv => whnf))))
  refine .mk (Eng.bytes l) rfl rfl ?_
  ((set_option smartUnfolding false in conv => whnf) <;> (repeat (first | exact True.intro | ((first | refine ⟨rfl, ?_⟩ | refine ar (by omega) (by omega) ?_ | refine ar8 (by omega) (by omega) ?_ | refine ix (by omega) ?_ | refine IdxVC.mk 0 rfl (by omega) ?_ | refine BytesVC.mk _ rfl ?_ | refine DivVC.mk (by omega) (by omega) ?_ | refine RemVC.mk (by omega) (by omega) ?_ | refine GhVC.mk _ _ _ rfl ?_); set_option smartUnfolding false in conv => whnf))))
  refine ap (by show l.length * 1 ≤ _; omega) (by show l.length ≤ _; omega) (fun c h1 h2 => ?_)
  ((set_option smartUnfolding false in conv => whnf) <;> (repeat (first | exact True.intro | ((first | refine ⟨rfl, ?_⟩ | refine ar (by omega) (by omega) ?_ | refine ar8 (by omega) (by omega) ?_ | refine ix (by omega) ?_ | refine IdxVC.mk 0 rfl (by omega) ?_ | refine BytesVC.mk _ rfl ?_ | refine DivVC.mk (by omega) (by omega) ?_ | refine RemVC.mk (by omega) (by omega) ?_ | refine GhVC.mk _ _ _ rfl ?_); set_option smartUnfolding false in conv => whnf))))
  refine ⟨[(6, 40)], rfl, rfl, ?_⟩
  ((set_option smartUnfolding false in conv => whnf) <;> (repeat (first | exact True.intro | ((first | refine ⟨rfl, ?_⟩ | refine ar (by omega) (by omega) ?_ | refine ar8 (by omega) (by omega) ?_ | refine ix (by omega) ?_ | refine IdxVC.mk 0 rfl (by omega) ?_ | refine BytesVC.mk _ rfl ?_ | refine DivVC.mk (by omega) (by omega) ?_ | refine RemVC.mk (by omega) (by omega) ?_ | refine GhVC.mk _ _ _ rfl ?_); set_option smartUnfolding false in conv => whnf))))
  exact ⟨c, h1, rfl, rfl, rfl⟩
/-- .. nobody writes them again -/
theorem copied_con (P : Hp) (a : Option Addr) (cap : Nat) (l : List UInt8) (hl : l.length ≤ 4294967296) :
    Con Try.prog [] 57 [.bs a cap l] P [] fun x P' H' => ∃ a' cap', x = .bs a' cap' l ∧ H' = [] := by
  refine (Con.freeze (copiedW_con P a cap l hl) (fun l' _ r => l' = l ∧ r = []) ?_).mono ?_
  · rintro x P' H' ⟨c, -, rfl, rfl, rfl⟩
    exact ⟨40, _, c, l, [], rfl, rfl, rfl, rfl⟩
  · rintro x P' H' ⟨a, c, l', P2, rfl, -, rfl, rfl⟩
    exact ⟨a, c, rfl, rfl⟩
set_option maxRecDepth 100000 in
/-- .. out of a row -/
theorem copiedR_con (P : Hp) (o n cap bc : Nat) (L : List UInt8) (hL : L.length ≤ 4294967296) (hn : o + n ≤ L.length) :
    Con Try.prog [0] 57 [.sl 0 1 o n cap] P [.row 0 5 bc (Eng.bytes L)] fun x P' H' => ∃ a' cap', x = .bs a' cap' ((L.drop o).take n) ∧ H' = [.row 0 5 bc (Eng.bytes L)] := by
  have hln : ((L.drop o).take n).length = n := by simp; omega
  have h1 : Con Try.prog [0] 57 [.sl 0 1 o n cap] P [.row 0 5 bc (Eng.bytes L)] fun x P' H' => ∃ c, x = .sl 40 1 0 ((L.drop o).take n).length c ∧ H' = [.row 40 5 c (Eng.bytes ((L.drop o).take n)), .row 0 5 bc (Eng.bytes L)] := by
    refine Con.ren (con_of_fun T_good (by kernel_rfl) Try.call57 Try.func57 (by kernel_rfl) (by show 1 ≤ _; decide +kernel) ?_)
    ((set_option smartUnfolding false in conv => whnf) <;> (repeat (first | exact True.intro | ((first | refine ⟨rfl, ?_⟩ | refine ar (by omega) (by omega) ?_ | refine ar8 (by omega) (by omega) ?_ | refine ix (by omega) ?_ | refine IdxVC.mk 0 rfl (by omega) ?_ | refine BytesVC.mk _ rfl ?_ | refine DivVC.mk (by omega) (by omega) ?_ | refine RemVC.mk (by omega) (by omega) ?_ | refine GhVC.mk _ _ _ rfl ?_); set_option smartUnfolding false in conv => whnf))))
    refine .mk (by show o + n ≤ L.length; exact hn) ?_
    ((set_option smartUnfolding false in conv => whnf) <;> (repeat (first | exact True.intro | ((first | refine ⟨rfl, ?_⟩ | refine ar (by omega) (by omega) ?_ | refine ar8 (by omega) (by omega) ?_ | refine ix (by omega) ?_ | refine IdxVC.mk 0 rfl (by omega) ?_ | refine BytesVC.mk _ rfl ?_ | refine DivVC.mk (by omega) (by omega) ?_ | refine RemVC.mk (by omega) (by omega) ?_ | refine GhVC.mk _ _ _ rfl ?_); set_option smartUnfolding false in conv => whnf))))
    refine .mk (Eng.bytes ((L.drop o).take n)) rfl rfl ?_
    ((set_option smartUnfolding false in conv => whnf) <;> (repeat (first | exact True.intro | ((first | refine ⟨rfl, ?_⟩ | refine ar (by omega) (by omega) ?_ | refine ar8 (by omega) (by omega) ?_ | refine ix (by omega) ?_ | refine IdxVC.mk 0 rfl (by omega) ?_ | refine BytesVC.mk _ rfl ?_ | refine DivVC.mk (by omega) (by omega) ?_ | refine RemVC.mk (by omega) (by omega) ?_ | refine GhVC.mk _ _ _ rfl ?_); set_option smartUnfolding false in conv => whnf))))
    refine ap (by show ((L.drop o).take n).length * 1 ≤ _; omega) (by show ((L.drop o).take n).length ≤ _; omega) (fun c h1 h2 => ?_)
    ((set_option smartUnfolding false in conv => whnf) <;> (repeat (first | exact True.intro | ((first | refine ⟨rfl, ?_⟩ | refine ar (by omega) (by omega) ?_ | refine ar8 (by omega) (by omega) ?_ | refine ix (by omega) ?_ | refine IdxVC.mk 0 rfl (by omega) ?_ | refine BytesVC.mk _ rfl ?_ | refine DivVC.mk (by omega) (by omega) ?_ | refine RemVC.mk (by omega) (by omega) ?_ | refine GhVC.mk _ _ _ rfl ?_); set_option smartUnfolding false in conv => whnf))))
    refine ⟨[(6, 40), (0, 0)], rfl, rfl, ?_⟩
    ((set_option smartUnfolding false in conv => whnf) <;> (repeat (first | exact True.intro | ((first | refine ⟨rfl, ?_⟩ | refine ar (by omega) (by omega) ?_ | refine ar8 (by omega) (by omega) ?_ | refine ix (by omega) ?_ | refine IdxVC.mk 0 rfl (by omega) ?_ | refine BytesVC.mk _ rfl ?_ | refine DivVC.mk (by omega) (by omega) ?_ | refine RemVC.mk (by omega) (by omega) ?_ | refine GhVC.mk _ _ _ rfl ?_); set_option smartUnfolding false in conv => whnf))))
    exact ⟨c, rfl, rfl⟩
  refine (Con.freeze h1 (fun l' _ r => l' = (L.drop o).take n ∧ r = [.row 0 5 bc (Eng.bytes L)]) ?_).mono ?_
  · rintro x P' H' ⟨c, rfl, rfl⟩
    exact ⟨40, _, c, _, _, rfl, rfl, rfl, rfl⟩
  · rintro x P' H' ⟨a, c, l', P2, rfl, -, rfl, rfl⟩
    exact ⟨a, c, rfl, rfl⟩
/-- a write more is pending -/
def Dev.push (D : Dev) (j : Nat) (b : List UInt8) : Dev := { D with pend := D.pend ++ [(j, b)] }
theorem zs_snoc {zs : List Pr} {D : Dev} (hz : zs.map Pr.p = D.pend) (j : Nat) (a : Option Addr) (c : Nat) (b : List UInt8) : (zs ++ [(j, a, c, b)]).map Pr.p = D.pend ++ [(j, b)] := by rw [List.map_append, hz]; rfl
set_option maxRecDepth 100000 in
set_option maxHeartbeats 1000000 in
/-- WRITE -/
theorem RWrite_con (P : Hp) (bc lc : Nat) (D : Dev) (hD : D.ok) (hl2 : D.img.length ≤ 2097152) (c0 : 0 ≤ D.calls) (c1 : D.calls ≤ 1000000000) (ka : Option Addr) (kc : Nat) (zs : List Pr) (hz : zs.map Pr.p = D.pend) (hzl : zs.length ≤ 900000)
    (i : Int) (i1 : -9223372036854775808 ≤ i) (i2 : i ≤ 9223372036854775807) (ba : Option Addr) (bcap : Nat) (b : List UInt8) :
    Con Try.prog [0, 300, 301] 60 [.ptr 300 0, .raw (.int .i64 i), .bs ba bcap b] P (rH bc lc D ka kc D.img zs) fun x P' H' => ∃ lc' zs', x = .raw (.int .i64 (D.write i b).2) ∧ zs'.map Pr.p = (D.write i b).1.pend ∧ H' = rH bc lc' (D.write i b).1 ka kc (D.write i b).1.img zs' := by
  have hpl : D.pend.length = zs.length := by rw [← hz, List.length_map]
  have ha0 := hD.armed.1
  have ha1 := hD.armed.2
  obtain ⟨q, hq⟩ : ∃ q, q = D.write i b := ⟨_, rfl⟩
  rw [← hq]
  refine Con.sub (Con.ren (con_of_fun T_good (by kernel_rfl) Try.call60 Try.func60 (by kernel_rfl) (by show 3 ≤ _; decide +kernel) ?_))
  have no : ∀ e, q = (D, e) → ∃ (lc' : Nat) (zs' : List Pr), SV.raw (.int .i64 e) = .raw (.int .i64 q.2) ∧ zs'.map Pr.p = q.1.pend ∧ rH bc lc D ka kc D.img zs = rH bc lc' q.1 ka kc q.1.img zs' := fun e he => ⟨lc, zs, by rw [he], by rw [he]; exact hz, by rw [he]⟩
  ((set_option smartUnfolding false in conv => whnf) <;> (repeat (first | exact True.intro | ((first | refine ⟨rfl, ?_⟩ | refine ar (by omega) (by omega) ?_ | refine ar8 (by omega) (by omega) ?_ | refine ix (by omega) ?_ | refine IdxVC.mk 0 rfl (by omega) ?_ | refine BytesVC.mk _ rfl ?_ | refine DivVC.mk (by omega) (by omega) ?_ | refine RemVC.mk (by omega) (by omega) ?_ | refine GhVC.mk _ _ _ rfl ?_); set_option smartUnfolding false in conv => whnf))))
  cases hd : D.down with
  | true =>
    have hq2 : q = (D, 80) := by rw [hq]; unfold Dev.write Dev.asked; rw [hd]; rfl
    have hno := no 80 hq2
    ((set_option smartUnfolding false in conv => whnf) <;> (repeat (first | exact True.intro | ((first | refine ⟨rfl, ?_⟩ | refine ar (by omega) (by omega) ?_ | refine ar8 (by omega) (by omega) ?_ | refine ix (by omega) ?_ | refine IdxVC.mk 0 rfl (by omega) ?_ | refine BytesVC.mk _ rfl ?_ | refine DivVC.mk (by omega) (by omega) ?_ | refine RemVC.mk (by omega) (by omega) ?_ | refine GhVC.mk _ _ _ rfl ?_); set_option smartUnfolding false in conv => whnf))))
    refine ⟨[(300, 300), (301, 301), (302, 302)], rfl, rfl, ?_⟩
    ((set_option smartUnfolding false in conv => whnf) <;> (repeat (first | exact True.intro | ((first | refine ⟨rfl, ?_⟩ | refine ar (by omega) (by omega) ?_ | refine ar8 (by omega) (by omega) ?_ | refine ix (by omega) ?_ | refine IdxVC.mk 0 rfl (by omega) ?_ | refine BytesVC.mk _ rfl ?_ | refine DivVC.mk (by omega) (by omega) ?_ | refine RemVC.mk (by omega) (by omega) ?_ | refine GhVC.mk _ _ _ rfl ?_); set_option smartUnfolding false in conv => whnf))))
    refine ⟨rH bc lc D ka kc D.img zs, ?_⟩
    ((set_option smartUnfolding false in conv => whnf) <;> (repeat (first | exact True.intro | ((first | refine ⟨rfl, ?_⟩ | refine ar (by omega) (by omega) ?_ | refine ar8 (by omega) (by omega) ?_ | refine ix (by omega) ?_ | refine IdxVC.mk 0 rfl (by omega) ?_ | refine BytesVC.mk _ rfl ?_ | refine DivVC.mk (by omega) (by omega) ?_ | refine RemVC.mk (by omega) (by omega) ?_ | refine GhVC.mk _ _ _ rfl ?_); set_option smartUnfolding false in conv => whnf))))
    exact hno
  | false =>
    ((set_option smartUnfolding false in conv => whnf) <;> (repeat (first | exact True.intro | ((first | refine ⟨rfl, ?_⟩ | refine ar (by omega) (by omega) ?_ | refine ar8 (by omega) (by omega) ?_ | refine ix (by omega) ?_ | refine IdxVC.mk 0 rfl (by omega) ?_ | refine BytesVC.mk _ rfl ?_ | refine DivVC.mk (by omega) (by omega) ?_ | refine RemVC.mk (by omega) (by omega) ?_ | refine GhVC.mk _ _ _ rfl ?_); set_option smartUnfolding false in conv => whnf))))
    refine bxd (fun h => ?_) (fun h => ?_)
    · have hq2 : q = (D, 81) := by rw [hq]; unfold Dev.write Dev.asked; rw [hd]; simp [h]
      have hno := no 81 hq2
      ((set_option smartUnfolding false in conv => whnf) <;> (repeat (first | exact True.intro | ((first | refine ⟨rfl, ?_⟩ | refine ar (by omega) (by omega) ?_ | refine ar8 (by omega) (by omega) ?_ | refine ix (by omega) ?_ | refine IdxVC.mk 0 rfl (by omega) ?_ | refine BytesVC.mk _ rfl ?_ | refine DivVC.mk (by omega) (by omega) ?_ | refine RemVC.mk (by omega) (by omega) ?_ | refine GhVC.mk _ _ _ rfl ?_); set_option smartUnfolding false in conv => whnf))))
      refine ⟨[(300, 300), (301, 301), (302, 302)], rfl, rfl, ?_⟩
      ((set_option smartUnfolding false in conv => whnf) <;> (repeat (first | exact True.intro | ((first | refine ⟨rfl, ?_⟩ | refine ar (by omega) (by omega) ?_ | refine ar8 (by omega) (by omega) ?_ | refine ix (by omega) ?_ | refine IdxVC.mk 0 rfl (by omega) ?_ | refine BytesVC.mk _ rfl ?_ | refine DivVC.mk (by omega) (by omega) ?_ | refine RemVC.mk (by omega) (by omega) ?_ | refine GhVC.mk _ _ _ rfl ?_); set_option smartUnfolding false in conv => whnf))))
      refine ⟨rH bc lc D ka kc D.img zs, ?_⟩
      ((set_option smartUnfolding false in conv => whnf) <;> (repeat (first | exact True.intro | ((first | refine ⟨rfl, ?_⟩ | refine ar (by omega) (by omega) ?_ | refine ar8 (by omega) (by omega) ?_ | refine ix (by omega) ?_ | refine IdxVC.mk 0 rfl (by omega) ?_ | refine BytesVC.mk _ rfl ?_ | refine DivVC.mk (by omega) (by omega) ?_ | refine RemVC.mk (by omega) (by omega) ?_ | refine GhVC.mk _ _ _ rfl ?_); set_option smartUnfolding false in conv => whnf))))
      exact hno
    · ((set_option smartUnfolding false in conv => whnf) <;> (repeat (first | exact True.intro | ((first | refine ⟨rfl, ?_⟩ | refine ar (by omega) (by omega) ?_ | refine ar8 (by omega) (by omega) ?_ | refine ix (by omega) ?_ | refine IdxVC.mk 0 rfl (by omega) ?_ | refine BytesVC.mk _ rfl ?_ | refine DivVC.mk (by omega) (by omega) ?_ | refine RemVC.mk (by omega) (by omega) ?_ | refine GhVC.mk _ _ _ rfl ?_); set_option smartUnfolding false in conv => whnf))))
      refine call_con (N := []) (RSectors_con _ bc lc D ka kc hl2) ?_
      ((set_option smartUnfolding false in conv => whnf) <;> (repeat (first | exact True.intro | ((first | refine ⟨rfl, ?_⟩ | refine ar (by omega) (by omega) ?_ | refine ar8 (by omega) (by omega) ?_ | refine ix (by omega) ?_ | refine IdxVC.mk 0 rfl (by omega) ?_ | refine BytesVC.mk _ rfl ?_ | refine DivVC.mk (by omega) (by omega) ?_ | refine RemVC.mk (by omega) (by omega) ?_ | refine GhVC.mk _ _ _ rfl ?_); set_option smartUnfolding false in conv => whnf))))
      rintro x P1 H' - ⟨rfl, rfl, rfl⟩
      ((set_option smartUnfolding false in conv => whnf) <;> (repeat (first | exact True.intro | ((first | refine ⟨rfl, ?_⟩ | refine ar (by omega) (by omega) ?_ | refine ar8 (by omega) (by omega) ?_ | refine ix (by omega) ?_ | refine IdxVC.mk 0 rfl (by omega) ?_ | refine BytesVC.mk _ rfl ?_ | refine DivVC.mk (by omega) (by omega) ?_ | refine RemVC.mk (by omega) (by omega) ?_ | refine GhVC.mk _ _ _ rfl ?_); set_option smartUnfolding false in conv => whnf))))
      refine bxd (fun hn => ?_) (fun hn => ?_)
      · have hq2 : q = (D, 81) := by rw [hq]; unfold Dev.write Dev.asked; rw [hd]; simp [hn]
        have hno := no 81 hq2
        ((set_option smartUnfolding false in conv => whnf) <;> (repeat (first | exact True.intro | ((first | refine ⟨rfl, ?_⟩ | refine ar (by omega) (by omega) ?_ | refine ar8 (by omega) (by omega) ?_ | refine ix (by omega) ?_ | refine IdxVC.mk 0 rfl (by omega) ?_ | refine BytesVC.mk _ rfl ?_ | refine DivVC.mk (by omega) (by omega) ?_ | refine RemVC.mk (by omega) (by omega) ?_ | refine GhVC.mk _ _ _ rfl ?_); set_option smartUnfolding false in conv => whnf))))
        refine ⟨[(300, 300), (301, 301), (302, 302)], rfl, rfl, ?_⟩
        ((set_option smartUnfolding false in conv => whnf) <;> (repeat (first | exact True.intro | ((first | refine ⟨rfl, ?_⟩ | refine ar (by omega) (by omega) ?_ | refine ar8 (by omega) (by omega) ?_ | refine ix (by omega) ?_ | refine IdxVC.mk 0 rfl (by omega) ?_ | refine BytesVC.mk _ rfl ?_ | refine DivVC.mk (by omega) (by omega) ?_ | refine RemVC.mk (by omega) (by omega) ?_ | refine GhVC.mk _ _ _ rfl ?_); set_option smartUnfolding false in conv => whnf))))
        refine ⟨rH bc lc D ka kc D.img zs, ?_⟩
        ((set_option smartUnfolding false in conv => whnf) <;> (repeat (first | exact True.intro | ((first | refine ⟨rfl, ?_⟩ | refine ar (by omega) (by omega) ?_ | refine ar8 (by omega) (by omega) ?_ | refine ix (by omega) ?_ | refine IdxVC.mk 0 rfl (by omega) ?_ | refine BytesVC.mk _ rfl ?_ | refine DivVC.mk (by omega) (by omega) ?_ | refine RemVC.mk (by omega) (by omega) ?_ | refine GhVC.mk _ _ _ rfl ?_); set_option smartUnfolding false in conv => whnf))))
        exact hno
      · have hask : D.asked i = 0 := by unfold Dev.asked; rw [hd, if_neg (by simp), if_neg (by omega)]
        ((set_option smartUnfolding false in conv => whnf) <;> (repeat (first | exact True.intro | ((first | refine ⟨rfl, ?_⟩ | refine ar (by omega) (by omega) ?_ | refine ar8 (by omega) (by omega) ?_ | refine ix (by omega) ?_ | refine IdxVC.mk 0 rfl (by omega) ?_ | refine BytesVC.mk _ rfl ?_ | refine DivVC.mk (by omega) (by omega) ?_ | refine RemVC.mk (by omega) (by omega) ?_ | refine GhVC.mk _ _ _ rfl ?_); set_option smartUnfolding false in conv => whnf))))
        refine bxn (fun hb => ?_) (fun hb => ?_)
        · have hq2 : q = (D, 82) := by rw [hq]; unfold Dev.write; rw [if_neg (by simpa using hask), if_pos (by omega)]
          have hno := no 82 hq2
          ((set_option smartUnfolding false in conv => whnf) <;> (repeat (first | exact True.intro | ((first | refine ⟨rfl, ?_⟩ | refine ar (by omega) (by omega) ?_ | refine ar8 (by omega) (by omega) ?_ | refine ix (by omega) ?_ | refine IdxVC.mk 0 rfl (by omega) ?_ | refine BytesVC.mk _ rfl ?_ | refine DivVC.mk (by omega) (by omega) ?_ | refine RemVC.mk (by omega) (by omega) ?_ | refine GhVC.mk _ _ _ rfl ?_); set_option smartUnfolding false in conv => whnf))))
          refine ⟨[(300, 300), (301, 301), (302, 302)], rfl, rfl, ?_⟩
          ((set_option smartUnfolding false in conv => whnf) <;> (repeat (first | exact True.intro | ((first | refine ⟨rfl, ?_⟩ | refine ar (by omega) (by omega) ?_ | refine ar8 (by omega) (by omega) ?_ | refine ix (by omega) ?_ | refine IdxVC.mk 0 rfl (by omega) ?_ | refine BytesVC.mk _ rfl ?_ | refine DivVC.mk (by omega) (by omega) ?_ | refine RemVC.mk (by omega) (by omega) ?_ | refine GhVC.mk _ _ _ rfl ?_); set_option smartUnfolding false in conv => whnf))))
          refine ⟨rH bc lc D ka kc D.img zs, ?_⟩
          ((set_option smartUnfolding false in conv => whnf) <;> (repeat (first | exact True.intro | ((first | refine ⟨rfl, ?_⟩ | refine ar (by omega) (by omega) ?_ | refine ar8 (by omega) (by omega) ?_ | refine ix (by omega) ?_ | refine IdxVC.mk 0 rfl (by omega) ?_ | refine BytesVC.mk _ rfl ?_ | refine DivVC.mk (by omega) (by omega) ?_ | refine RemVC.mk (by omega) (by omega) ?_ | refine GhVC.mk _ _ _ rfl ?_); set_option smartUnfolding false in conv => whnf))))
          exact hno
        · obtain ⟨j, hj⟩ : ∃ j : Nat, i = (j : Int) := ⟨i.toNat, by omega⟩
          have hjn : j < D.n := by omega
          have hb5 : b.length = 512 := by omega
          have hEok : (Dev.push D j b).ok := Dev.push_ok hD hjn hb5
          have hq3 : q = if (Dev.push D j b).fires then ((Dev.push D j b).count.fall D.loss, 80) else ((Dev.push D j b).count, 0) := by
            rw [hq]; unfold Dev.write; rw [if_neg (by simpa using hask), if_neg (by omega), show i.toNat = j by omega]; rfl
          obtain ⟨bf, hbf⟩ : ∃ bf, bf = (Dev.push D j b).fires := ⟨_, rfl⟩
          rw [← hbf] at hq3
          have hfi := fun P lc => Rfires_con P bc lc (Dev.push D j b) ka kc c0 c1 ha0 ha1
          rw [← hbf] at hfi
          ((set_option smartUnfolding false in conv => whnf) <;> (repeat (first | exact True.intro | ((first | refine ⟨rfl, ?_⟩ | refine ar (by omega) (by omega) ?_ | refine ar8 (by omega) (by omega) ?_ | refine ix (by omega) ?_ | refine IdxVC.mk 0 rfl (by omega) ?_ | refine BytesVC.mk _ rfl ?_ | refine DivVC.mk (by omega) (by omega) ?_ | refine RemVC.mk (by omega) (by omega) ?_ | refine GhVC.mk _ _ _ rfl ?_); set_option smartUnfolding false in conv => whnf))))
          refine call_con (N := []) (copied_con _ ba bcap b (by omega)) ?_
          ((set_option smartUnfolding false in conv => whnf) <;> (repeat (first | exact True.intro | ((first | refine ⟨rfl, ?_⟩ | refine ar (by omega) (by omega) ?_ | refine ar8 (by omega) (by omega) ?_ | refine ix (by omega) ?_ | refine IdxVC.mk 0 rfl (by omega) ?_ | refine BytesVC.mk _ rfl ?_ | refine DivVC.mk (by omega) (by omega) ?_ | refine RemVC.mk (by omega) (by omega) ?_ | refine GhVC.mk _ _ _ rfl ?_); set_option smartUnfolding false in conv => whnf))))
          rintro x P2 H' - ⟨a2, c2, rfl, rfl⟩
          ((set_option smartUnfolding false in conv => whnf) <;> (repeat (first | exact True.intro | ((first | refine ⟨rfl, ?_⟩ | refine ar (by omega) (by omega) ?_ | refine ar8 (by omega) (by omega) ?_ | refine ix (by omega) ?_ | refine IdxVC.mk 0 rfl (by omega) ?_ | refine BytesVC.mk _ rfl ?_ | refine DivVC.mk (by omega) (by omega) ?_ | refine RemVC.mk (by omega) (by omega) ?_ | refine GhVC.mk _ _ _ rfl ?_); set_option smartUnfolding false in conv => whnf))))
          refine .mk (Nat.le_refl _) ?_
          ((set_option smartUnfolding false in conv => whnf) <;> (repeat (first | exact True.intro | ((first | refine ⟨rfl, ?_⟩ | refine ar (by omega) (by omega) ?_ | refine ar8 (by omega) (by omega) ?_ | refine ix (by omega) ?_ | refine IdxVC.mk 0 rfl (by omega) ?_ | refine BytesVC.mk _ rfl ?_ | refine DivVC.mk (by omega) (by omega) ?_ | refine RemVC.mk (by omega) (by omega) ?_ | refine GhVC.mk _ _ _ rfl ?_); set_option smartUnfolding false in conv => whnf))))
          refine .mk [(j, a2, c2, b)] (by subst hj; rfl) ?_
          ((set_option smartUnfolding false in conv => whnf) <;> (repeat (first | exact True.intro | ((first | refine ⟨rfl, ?_⟩ | refine ar (by omega) (by omega) ?_ | refine ar8 (by omega) (by omega) ?_ | refine ix (by omega) ?_ | refine IdxVC.mk 0 rfl (by omega) ?_ | refine BytesVC.mk _ rfl ?_ | refine DivVC.mk (by omega) (by omega) ?_ | refine RemVC.mk (by omega) (by omega) ?_ | refine GhVC.mk _ _ _ rfl ?_); set_option smartUnfolding false in conv => whnf))))
          refine .mk rfl hpl rfl ?_
          ((set_option smartUnfolding false in conv => whnf) <;> (repeat (first | exact True.intro | ((first | refine ⟨rfl, ?_⟩ | refine ar (by omega) (by omega) ?_ | refine ar8 (by omega) (by omega) ?_ | refine ix (by omega) ?_ | refine IdxVC.mk 0 rfl (by omega) ?_ | refine BytesVC.mk _ rfl ?_ | refine DivVC.mk (by omega) (by omega) ?_ | refine RemVC.mk (by omega) (by omega) ?_ | refine GhVC.mk _ _ _ rfl ?_); set_option smartUnfolding false in conv => whnf))))
          refine ap (by show (zs.length + 1) * 32 ≤ _; omega) (by show zs.length + 1 ≤ _; omega) (fun lc2 h1 h2 => ?_)
          ((set_option smartUnfolding false in conv => whnf) <;> (repeat (first | exact True.intro | ((first | refine ⟨rfl, ?_⟩ | refine ar (by omega) (by omega) ?_ | refine ar8 (by omega) (by omega) ?_ | refine ix (by omega) ?_ | refine IdxVC.mk 0 rfl (by omega) ?_ | refine BytesVC.mk _ rfl ?_ | refine DivVC.mk (by omega) (by omega) ?_ | refine RemVC.mk (by omega) (by omega) ?_ | refine GhVC.mk _ _ _ rfl ?_); set_option smartUnfolding false in conv => whnf))))
          have hlen2 : (zs ++ [(j, a2, c2, b)]).length = (D.pend ++ [(j, b)]).length := by rw [List.length_append, List.length_append, hpl]; rfl
          have hz2 : (zs ++ [(j, a2, c2, b)]).map Pr.p = D.pend ++ [(j, b)] := zs_snoc hz j a2 c2 b
          have hlz : (zs ++ [(j, a2, c2, b)]).length ≤ 1000000 := by rw [List.length_append]; show zs.length + 1 ≤ _; omega
          rw [show List.length (α := (pdC zs).α) ((pdC zs).l ++ [(j, a2, c2, b)]) = (Dev.push D j b).pend.length from hlen2]
          refine call_con (N := []) (hfi _ lc2) ?_
          ((set_option smartUnfolding false in conv => whnf) <;> (repeat (first | exact True.intro | ((first | refine ⟨rfl, ?_⟩ | refine ar (by omega) (by omega) ?_ | refine ar8 (by omega) (by omega) ?_ | refine ix (by omega) ?_ | refine IdxVC.mk 0 rfl (by omega) ?_ | refine BytesVC.mk _ rfl ?_ | refine DivVC.mk (by omega) (by omega) ?_ | refine RemVC.mk (by omega) (by omega) ?_ | refine GhVC.mk _ _ _ rfl ?_); set_option smartUnfolding false in conv => whnf))))
          rintro x P3 H' - ⟨rfl, rfl, rfl⟩
          cases bf with
          | true =>
            ((set_option smartUnfolding false in conv => whnf) <;> (repeat (first | exact True.intro | ((first | refine ⟨rfl, ?_⟩ | refine ar (by omega) (by omega) ?_ | refine ar8 (by omega) (by omega) ?_ | refine ix (by omega) ?_ | refine IdxVC.mk 0 rfl (by omega) ?_ | refine BytesVC.mk _ rfl ?_ | refine DivVC.mk (by omega) (by omega) ?_ | refine RemVC.mk (by omega) (by omega) ?_ | refine GhVC.mk _ _ _ rfl ?_); set_option smartUnfolding false in conv => whnf))))
            refine call_con (N := [302]) (RfallsH_con _ bc lc2 (Dev.push D j b).count (Dev.count_ok hEok) hl2 ka kc (zs ++ [(j, a2, c2, b)]) hz2 hlz D.loss hD.lossOk ka kc) ?_
            ((set_option smartUnfolding false in conv => whnf) <;> (repeat (first | exact True.intro | ((first | refine ⟨rfl, ?_⟩ | refine ar (by omega) (by omega) ?_ | refine ar8 (by omega) (by omega) ?_ | refine ix (by omega) ?_ | refine IdxVC.mk 0 rfl (by omega) ?_ | refine BytesVC.mk _ rfl ?_ | refine DivVC.mk (by omega) (by omega) ?_ | refine RemVC.mk (by omega) (by omega) ?_ | refine GhVC.mk _ _ _ rfl ?_); set_option smartUnfolding false in conv => whnf))))
            rintro x P4 H' - ⟨rfl, rfl, rfl⟩
            have hq2 : q = ((Dev.push D j b).count.fall D.loss, 80) := hq3
            have hfin : ∃ (lc' : Nat) (zs' : List Pr), SV.raw (.int .i64 80) = .raw (.int .i64 q.2) ∧ zs'.map Pr.p = q.1.pend ∧ rH bc 0 ((Dev.push D j b).count.fall D.loss) ka kc ((Dev.push D j b).count.fall D.loss).img [] = rH bc lc' q.1 ka kc q.1.img zs' := ⟨0, [], by rw [hq2], by rw [hq2]; rfl, by rw [hq2]⟩
            ((set_option smartUnfolding false in conv => whnf) <;> (repeat (first | exact True.intro | ((first | refine ⟨rfl, ?_⟩ | refine ar (by omega) (by omega) ?_ | refine ar8 (by omega) (by omega) ?_ | refine ix (by omega) ?_ | refine IdxVC.mk 0 rfl (by omega) ?_ | refine BytesVC.mk _ rfl ?_ | refine DivVC.mk (by omega) (by omega) ?_ | refine RemVC.mk (by omega) (by omega) ?_ | refine GhVC.mk _ _ _ rfl ?_); set_option smartUnfolding false in conv => whnf))))
            refine ⟨[(300, 300), (301, 301), (47, 302), (35, 303)], rfl, rfl, ?_⟩
            ((set_option smartUnfolding false in conv => whnf) <;> (repeat (first | exact True.intro | ((first | refine ⟨rfl, ?_⟩ | refine ar (by omega) (by omega) ?_ | refine ar8 (by omega) (by omega) ?_ | refine ix (by omega) ?_ | refine IdxVC.mk 0 rfl (by omega) ?_ | refine BytesVC.mk _ rfl ?_ | refine DivVC.mk (by omega) (by omega) ?_ | refine RemVC.mk (by omega) (by omega) ?_ | refine GhVC.mk _ _ _ rfl ?_); set_option smartUnfolding false in conv => whnf))))
            refine ⟨rH bc 0 ((Dev.push D j b).count.fall D.loss) ka kc ((Dev.push D j b).count.fall D.loss).img [], ?_⟩
            ((set_option smartUnfolding false in conv => whnf) <;> (repeat (first | exact True.intro | ((first | refine ⟨rfl, ?_⟩ | refine ar (by omega) (by omega) ?_ | refine ar8 (by omega) (by omega) ?_ | refine ix (by omega) ?_ | refine IdxVC.mk 0 rfl (by omega) ?_ | refine BytesVC.mk _ rfl ?_ | refine DivVC.mk (by omega) (by omega) ?_ | refine RemVC.mk (by omega) (by omega) ?_ | refine GhVC.mk _ _ _ rfl ?_); set_option smartUnfolding false in conv => whnf))))
            exact hfin
          | false =>
            have hq2 : q = ((Dev.push D j b).count, 0) := hq3
            have hfin : ∃ (lc' : Nat) (zs' : List Pr), SV.raw (.int .i64 0) = .raw (.int .i64 q.2) ∧ zs'.map Pr.p = q.1.pend ∧ rH bc lc2 (Dev.push D j b).count ka kc (Dev.push D j b).count.img (zs ++ [(j, a2, c2, b)]) = rH bc lc' q.1 ka kc q.1.img zs' := ⟨lc2, _, by rw [hq2], by rw [hq2]; exact hz2, by rw [hq2]⟩
            ((set_option smartUnfolding false in conv => whnf) <;> (repeat (first | exact True.intro | ((first | refine ⟨rfl, ?_⟩ | refine ar (by omega) (by omega) ?_ | refine ar8 (by omega) (by omega) ?_ | refine ix (by omega) ?_ | refine IdxVC.mk 0 rfl (by omega) ?_ | refine BytesVC.mk _ rfl ?_ | refine DivVC.mk (by omega) (by omega) ?_ | refine RemVC.mk (by omega) (by omega) ?_ | refine GhVC.mk _ _ _ rfl ?_); set_option smartUnfolding false in conv => whnf))))
            refine ⟨[(300, 300), (301, 301), (36, 302), (35, 303)], rfl, rfl, ?_⟩
            ((set_option smartUnfolding false in conv => whnf) <;> (repeat (first | exact True.intro | ((first | refine ⟨rfl, ?_⟩ | refine ar (by omega) (by omega) ?_ | refine ar8 (by omega) (by omega) ?_ | refine ix (by omega) ?_ | refine IdxVC.mk 0 rfl (by omega) ?_ | refine BytesVC.mk _ rfl ?_ | refine DivVC.mk (by omega) (by omega) ?_ | refine RemVC.mk (by omega) (by omega) ?_ | refine GhVC.mk _ _ _ rfl ?_); set_option smartUnfolding false in conv => whnf))))
            refine ⟨rH bc lc2 (Dev.push D j b).count ka kc (Dev.push D j b).count.img (zs ++ [(j, a2, c2, b)]), ?_⟩
            ((set_option smartUnfolding false in conv => whnf) <;> (repeat (first | exact True.intro | ((first | refine ⟨rfl, ?_⟩ | refine ar (by omega) (by omega) ?_ | refine ar8 (by omega) (by omega) ?_ | refine ix (by omega) ?_ | refine IdxVC.mk 0 rfl (by omega) ?_ | refine BytesVC.mk _ rfl ?_ | refine DivVC.mk (by omega) (by omega) ?_ | refine RemVC.mk (by omega) (by omega) ?_ | refine GhVC.mk _ _ _ rfl ?_); set_option smartUnfolding false in conv => whnf))))
            exact hfin
/-- what is read, so far -/
def rdB (D : Dev) (j : Nat) : Option Pr → List UInt8
  | none => sec D.img j
  | some z => z.2.2.2
set_option maxRecDepth 100000 in
set_option maxHeartbeats 1000000 in
/-- READ: bytes in new memory -/
theorem RRead_con (P : Hp) (bc lc : Nat) (D : Dev) (hD : D.ok) (hbc : D.img.length ≤ bc) (ka : Option Addr) (kc : Nat) (zs : List Pr) (hz : zs.map Pr.p = D.pend) (hzl : zs.length ≤ 900000) (i : Int) (i1 : -9223372036854775808 ≤ i) (i2 : i ≤ 9223372036854775807) :
    Con Try.prog [0, 300, 301, 302] 45 [.ptr 300 0, .raw (.int .i64 i)] P (rH bc lc D ka kc D.img zs) fun x P' H' => ∃ a c, x = .tup [.bs a c (D.read i).1, .raw (.int .i64 (D.read i).2)] ∧ H' = rH bc lc D ka kc D.img zs := by
  have hpl : D.pend.length = zs.length := by rw [← hz, List.length_map]
  have hl2 : D.img.length ≤ 2097152 := by obtain ⟨n, h, h1, h2⟩ := hD.img; omega
  obtain ⟨q, hq⟩ : ∃ q, q = D.read i := ⟨_, rfl⟩
  rw [← hq]
  refine Con.res (post := fun x P' H' => H' = rH bc lc D ka kc D.img zs ∧ ((q = ([], 80) ∧ x = .tup [.raw (.slice none 0 0), .raw (.int .i64 80)]) ∨ (q = ([], 81) ∧ x = .tup [.raw (.slice none 0 0), .raw (.int .i64 81)]) ∨ ∃ a c, x = .tup [.bs a c q.1, .raw (.int .i64 q.2)])) ?_ ?_
  · refine Con.sub (con_of_fun T_good (by kernel_rfl) Try.call45 Try.func45 (by kernel_rfl) (by show 2 ≤ _; decide +kernel) ?_)
    ((set_option smartUnfolding false in conv => whnf) <;> (repeat (first | exact True.intro | ((first | refine ⟨rfl, ?_⟩ | refine ar (by omega) (by omega) ?_ | refine ar8 (by omega) (by omega) ?_ | refine ix (by omega) ?_ | refine IdxVC.mk 0 rfl (by omega) ?_ | refine BytesVC.mk _ rfl ?_ | refine DivVC.mk (by omega) (by omega) ?_ | refine RemVC.mk (by omega) (by omega) ?_ | refine GhVC.mk _ _ _ rfl ?_); set_option smartUnfolding false in conv => whnf))))
    cases hd : D.down with
    | true =>
      have hq2 : q = ([], 80) := by rw [hq]; unfold Dev.read Dev.asked; rw [hd]; rfl
      ((set_option smartUnfolding false in conv => whnf) <;> (repeat (first | exact True.intro | ((first | refine ⟨rfl, ?_⟩ | refine ar (by omega) (by omega) ?_ | refine ar8 (by omega) (by omega) ?_ | refine ix (by omega) ?_ | refine IdxVC.mk 0 rfl (by omega) ?_ | refine BytesVC.mk _ rfl ?_ | refine DivVC.mk (by omega) (by omega) ?_ | refine RemVC.mk (by omega) (by omega) ?_ | refine GhVC.mk _ _ _ rfl ?_); set_option smartUnfolding false in conv => whnf))))
      refine ⟨rH bc lc D ka kc D.img zs, ?_⟩
      ((set_option smartUnfolding false in conv => whnf) <;> (repeat (first | exact True.intro | ((first | refine ⟨rfl, ?_⟩ | refine ar (by omega) (by omega) ?_ | refine ar8 (by omega) (by omega) ?_ | refine ix (by omega) ?_ | refine IdxVC.mk 0 rfl (by omega) ?_ | refine BytesVC.mk _ rfl ?_ | refine DivVC.mk (by omega) (by omega) ?_ | refine RemVC.mk (by omega) (by omega) ?_ | refine GhVC.mk _ _ _ rfl ?_); set_option smartUnfolding false in conv => whnf))))
      exact .inl ⟨hq2, rfl⟩
    | false =>
      ((set_option smartUnfolding false in conv => whnf) <;> (repeat (first | exact True.intro | ((first | refine ⟨rfl, ?_⟩ | refine ar (by omega) (by omega) ?_ | refine ar8 (by omega) (by omega) ?_ | refine ix (by omega) ?_ | refine IdxVC.mk 0 rfl (by omega) ?_ | refine BytesVC.mk _ rfl ?_ | refine DivVC.mk (by omega) (by omega) ?_ | refine RemVC.mk (by omega) (by omega) ?_ | refine GhVC.mk _ _ _ rfl ?_); set_option smartUnfolding false in conv => whnf))))
      refine bxd (fun h => ?_) (fun h => ?_)
      · have hq2 : q = ([], 81) := by rw [hq]; unfold Dev.read Dev.asked; rw [hd]; simp [h]
        ((set_option smartUnfolding false in conv => whnf) <;> (repeat (first | exact True.intro | ((first | refine ⟨rfl, ?_⟩ | refine ar (by omega) (by omega) ?_ | refine ar8 (by omega) (by omega) ?_ | refine ix (by omega) ?_ | refine IdxVC.mk 0 rfl (by omega) ?_ | refine BytesVC.mk _ rfl ?_ | refine DivVC.mk (by omega) (by omega) ?_ | refine RemVC.mk (by omega) (by omega) ?_ | refine GhVC.mk _ _ _ rfl ?_); set_option smartUnfolding false in conv => whnf))))
        refine ⟨rH bc lc D ka kc D.img zs, ?_⟩
        ((set_option smartUnfolding false in conv => whnf) <;> (repeat (first | exact True.intro | ((first | refine ⟨rfl, ?_⟩ | refine ar (by omega) (by omega) ?_ | refine ar8 (by omega) (by omega) ?_ | refine ix (by omega) ?_ | refine IdxVC.mk 0 rfl (by omega) ?_ | refine BytesVC.mk _ rfl ?_ | refine DivVC.mk (by omega) (by omega) ?_ | refine RemVC.mk (by omega) (by omega) ?_ | refine GhVC.mk _ _ _ rfl ?_); set_option smartUnfolding false in conv => whnf))))
        exact .inr (.inl ⟨hq2, rfl⟩)
      · ((set_option smartUnfolding false in conv => whnf) <;> (repeat (first | exact True.intro | ((first | refine ⟨rfl, ?_⟩ | refine ar (by omega) (by omega) ?_ | refine ar8 (by omega) (by omega) ?_ | refine ix (by omega) ?_ | refine IdxVC.mk 0 rfl (by omega) ?_ | refine BytesVC.mk _ rfl ?_ | refine DivVC.mk (by omega) (by omega) ?_ | refine RemVC.mk (by omega) (by omega) ?_ | refine GhVC.mk _ _ _ rfl ?_); set_option smartUnfolding false in conv => whnf))))
        refine call_con (N := []) (RSectors_con _ bc lc D ka kc hl2) ?_
        ((set_option smartUnfolding false in conv => whnf) <;> (repeat (first | exact True.intro | ((first | refine ⟨rfl, ?_⟩ | refine ar (by omega) (by omega) ?_ | refine ar8 (by omega) (by omega) ?_ | refine ix (by omega) ?_ | refine IdxVC.mk 0 rfl (by omega) ?_ | refine BytesVC.mk _ rfl ?_ | refine DivVC.mk (by omega) (by omega) ?_ | refine RemVC.mk (by omega) (by omega) ?_ | refine GhVC.mk _ _ _ rfl ?_); set_option smartUnfolding false in conv => whnf))))
        rintro x P1 H' - ⟨rfl, rfl, rfl⟩
        ((set_option smartUnfolding false in conv => whnf) <;> (repeat (first | exact True.intro | ((first | refine ⟨rfl, ?_⟩ | refine ar (by omega) (by omega) ?_ | refine ar8 (by omega) (by omega) ?_ | refine ix (by omega) ?_ | refine IdxVC.mk 0 rfl (by omega) ?_ | refine BytesVC.mk _ rfl ?_ | refine DivVC.mk (by omega) (by omega) ?_ | refine RemVC.mk (by omega) (by omega) ?_ | refine GhVC.mk _ _ _ rfl ?_); set_option smartUnfolding false in conv => whnf))))
        refine bxd (fun hn => ?_) (fun hn => ?_)
        · have hq2 : q = ([], 81) := by rw [hq]; unfold Dev.read Dev.asked; rw [hd]; simp [hn]
          ((set_option smartUnfolding false in conv => whnf) <;> (repeat (first | exact True.intro | ((first | refine ⟨rfl, ?_⟩ | refine ar (by omega) (by omega) ?_ | refine ar8 (by omega) (by omega) ?_ | refine ix (by omega) ?_ | refine IdxVC.mk 0 rfl (by omega) ?_ | refine BytesVC.mk _ rfl ?_ | refine DivVC.mk (by omega) (by omega) ?_ | refine RemVC.mk (by omega) (by omega) ?_ | refine GhVC.mk _ _ _ rfl ?_); set_option smartUnfolding false in conv => whnf))))
          refine ⟨rH bc lc D ka kc D.img zs, ?_⟩
          ((set_option smartUnfolding false in conv => whnf) <;> (repeat (first | exact True.intro | ((first | refine ⟨rfl, ?_⟩ | refine ar (by omega) (by omega) ?_ | refine ar8 (by omega) (by omega) ?_ | refine ix (by omega) ?_ | refine IdxVC.mk 0 rfl (by omega) ?_ | refine BytesVC.mk _ rfl ?_ | refine DivVC.mk (by omega) (by omega) ?_ | refine RemVC.mk (by omega) (by omega) ?_ | refine GhVC.mk _ _ _ rfl ?_); set_option smartUnfolding false in conv => whnf))))
          exact .inr (.inl ⟨hq2, rfl⟩)
        · have hask : D.asked i = 0 := by unfold Dev.asked; rw [hd, if_neg (by simp), if_neg (by omega)]
          obtain ⟨j, rfl⟩ : ∃ j : Nat, i = (j : Int) := ⟨i.toNat, by omega⟩
          have hjn : j < D.n := by omega
          have hsec := hD.sector hjn
          have hq2 : q = (lastOf j (sec D.img j) D.pend, 0) := by rw [hq]; unfold Dev.read; rw [if_neg (by simpa using hask)]; rfl
          ((set_option smartUnfolding false in conv => whnf) <;> (repeat (first | exact True.intro | ((first | refine ⟨rfl, ?_⟩ | refine ar (by omega) (by omega) ?_ | refine ar8 (by omega) (by omega) ?_ | refine ix (by omega) ?_ | refine IdxVC.mk 0 rfl (by omega) ?_ | refine BytesVC.mk _ rfl ?_ | refine DivVC.mk (by omega) (by omega) ?_ | refine RemVC.mk (by omega) (by omega) ?_ | refine GhVC.mk _ _ _ rfl ?_); set_option smartUnfolding false in conv => whnf))))
          refine .mk (j * 512) (j * 512 + 512) (by omega) (by omega) (by omega) (by omega) ?_
          rw [if_neg (show ¬ bc = j * 512 by omega)]
          ((set_option smartUnfolding false in conv => whnf) <;> (repeat (first | exact True.intro | ((first | refine ⟨rfl, ?_⟩ | refine ar (by omega) (by omega) ?_ | refine ar8 (by omega) (by omega) ?_ | refine ix (by omega) ?_ | refine IdxVC.mk 0 rfl (by omega) ?_ | refine BytesVC.mk _ rfl ?_ | refine DivVC.mk (by omega) (by omega) ?_ | refine RemVC.mk (by omega) (by omega) ?_ | refine GhVC.mk _ _ _ rfl ?_); set_option smartUnfolding false in conv => whnf))))
          refine .mk (β := { x : Int × Option Pr // ∃ k : Nat, x.1 = (k : Int) ∧ k ≤ D.pend.length ∧ lastOf j (sec D.img j) (D.pend.take k) = rdB D j x.2 ∧ ∀ z, x.2 = some z → z.2.2.2.length = 512 }) (fun ⟨(kk, o), _⟩ => ⟨[(7, .raw (.int .i64 kk)), (6, match o with | none => .sl 301 1 (0 + j * 512) (j * 512 + 512 - j * 512) (bc - j * 512) | some z => .bs z.2.1 z.2.2.1 z.2.2.2), (1, .raw (.int .i64 (j : Int))), (0, .ptr 300 0)], P1, rH bc lc D ka kc D.img zs⟩) (fun b => ((D.pend.length : Int) - b.1.1).toNat) ⟨(0, none), ⟨0, rfl, Nat.zero_le _, rfl, fun z h => by cases h⟩⟩ ?_ ?_
          · ((set_option smartUnfolding false in conv => whnf) <;> (repeat (first | exact True.intro | ((first | refine ⟨rfl, ?_⟩ | refine ar (by omega) (by omega) ?_ | refine ar8 (by omega) (by omega) ?_ | refine ix (by omega) ?_ | refine IdxVC.mk 0 rfl (by omega) ?_ | refine BytesVC.mk _ rfl ?_ | refine DivVC.mk (by omega) (by omega) ?_ | refine RemVC.mk (by omega) (by omega) ?_ | refine GhVC.mk _ _ _ rfl ?_); set_option smartUnfolding false in conv => whnf))))
          · rintro ⟨⟨kk, o⟩, hk'⟩ -
            obtain ⟨k, hkk, hkm, hlast, ho⟩ : ∃ k : Nat, kk = (k : Int) ∧ k ≤ D.pend.length ∧ lastOf j (sec D.img j) (D.pend.take k) = rdB D j o ∧ ∀ z, o = some z → z.2.2.2.length = 512 := hk'
            ((set_option smartUnfolding false in conv => whnf) <;> (repeat (first | exact True.intro | ((first | refine ⟨rfl, ?_⟩ | refine ar (by omega) (by omega) ?_ | refine ar8 (by omega) (by omega) ?_ | refine ix (by omega) ?_ | refine IdxVC.mk 0 rfl (by omega) ?_ | refine BytesVC.mk _ rfl ?_ | refine DivVC.mk (by omega) (by omega) ?_ | refine RemVC.mk (by omega) (by omega) ?_ | refine GhVC.mk _ _ _ rfl ?_); set_option smartUnfolding false in conv => whnf))))
            refine bxd (fun hl => ?_) (fun hl => ?_)
            · have hkl : k < D.pend.length := by have h : kk < (D.pend.length : Int) := hl; omega
              obtain ⟨z, hzk⟩ : ∃ z, zs[k]? = some z := ⟨zs[k]'(by omega), List.getElem?_eq_getElem _⟩
              have hpk : D.pend[k]? = some z.p := by rw [← hz, List.getElem?_map, hzk]; rfl
              have hzb : z.2.2.2.length = 512 := (hD.pend z.p (List.mem_of_getElem? hpk)).2
              have hstep := lastOf_take j (sec D.img j) D.pend k z.p hpk
              ((set_option smartUnfolding false in conv => whnf) <;> (repeat (first | exact True.intro | ((first | refine ⟨rfl, ?_⟩ | refine ar (by omega) (by omega) ?_ | refine ar8 (by omega) (by omega) ?_ | refine ix (by omega) ?_ | refine IdxVC.mk 0 rfl (by omega) ?_ | refine BytesVC.mk _ rfl ?_ | refine DivVC.mk (by omega) (by omega) ?_ | refine RemVC.mk (by omega) (by omega) ?_ | refine GhVC.mk _ _ _ rfl ?_); set_option smartUnfolding false in conv => whnf))))
              refine IdxVC.mk k hkk (by show k < D.pend.length; omega) ?_
              ((set_option smartUnfolding false in conv => whnf) <;> (repeat (first | exact True.intro | ((first | refine ⟨rfl, ?_⟩ | refine ar (by omega) (by omega) ?_ | refine ar8 (by omega) (by omega) ?_ | refine ix (by omega) ?_ | refine IdxVC.mk 0 rfl (by omega) ?_ | refine BytesVC.mk _ rfl ?_ | refine DivVC.mk (by omega) (by omega) ?_ | refine RemVC.mk (by omega) (by omega) ?_ | refine GhVC.mk _ _ _ rfl ?_); set_option smartUnfolding false in conv => whnf))))
              refine .mk z (by rw [Nat.zero_add]; exact hzk) ?_
              ((set_option smartUnfolding false in conv => whnf) <;> (repeat (first | exact True.intro | ((first | refine ⟨rfl, ?_⟩ | refine ar (by omega) (by omega) ?_ | refine ar8 (by omega) (by omega) ?_ | refine ix (by omega) ?_ | refine IdxVC.mk 0 rfl (by omega) ?_ | refine BytesVC.mk _ rfl ?_ | refine DivVC.mk (by omega) (by omega) ?_ | refine RemVC.mk (by omega) (by omega) ?_ | refine GhVC.mk _ _ _ rfl ?_); set_option smartUnfolding false in conv => whnf))))
              refine bxd (fun he => ?_) (fun he => ?_)
              · have he2 : z.p.1 = j := by show z.1 = j; omega
                ((set_option smartUnfolding false in conv => whnf) <;> (repeat (first | exact True.intro | ((first | refine ⟨rfl, ?_⟩ | refine ar (by omega) (by omega) ?_ | refine ar8 (by omega) (by omega) ?_ | refine ix (by omega) ?_ | refine IdxVC.mk 0 rfl (by omega) ?_ | refine BytesVC.mk _ rfl ?_ | refine DivVC.mk (by omega) (by omega) ?_ | refine RemVC.mk (by omega) (by omega) ?_ | refine GhVC.mk _ _ _ rfl ?_); set_option smartUnfolding false in conv => whnf))))
                refine IdxVC.mk k hkk (by show k < D.pend.length; omega) ?_
                ((set_option smartUnfolding false in conv => whnf) <;> (repeat (first | exact True.intro | ((first | refine ⟨rfl, ?_⟩ | refine ar (by omega) (by omega) ?_ | refine ar8 (by omega) (by omega) ?_ | refine ix (by omega) ?_ | refine IdxVC.mk 0 rfl (by omega) ?_ | refine BytesVC.mk _ rfl ?_ | refine DivVC.mk (by omega) (by omega) ?_ | refine RemVC.mk (by omega) (by omega) ?_ | refine GhVC.mk _ _ _ rfl ?_); set_option smartUnfolding false in conv => whnf))))
                refine .mk z (by rw [Nat.zero_add]; exact hzk) ?_
                ((set_option smartUnfolding false in conv => whnf) <;> (repeat (first | exact True.intro | ((first | refine ⟨rfl, ?_⟩ | refine ar (by omega) (by omega) ?_ | refine ar8 (by omega) (by omega) ?_ | refine ix (by omega) ?_ | refine IdxVC.mk 0 rfl (by omega) ?_ | refine BytesVC.mk _ rfl ?_ | refine DivVC.mk (by omega) (by omega) ?_ | refine RemVC.mk (by omega) (by omega) ?_ | refine GhVC.mk _ _ _ rfl ?_); set_option smartUnfolding false in conv => whnf))))
                refine ⟨⟨(kk + 1, some z), ⟨k + 1, by omega, by omega, by rw [hstep, if_pos he2]; rfl, fun y hy => by cases hy; exact hzb⟩⟩, show ((D.pend.length : Int) - (kk + 1)).toNat < ((D.pend.length : Int) - kk).toNat by omega, ?_⟩
                ((set_option smartUnfolding false in conv => whnf) <;> (repeat (first | exact True.intro | ((first | refine ⟨rfl, ?_⟩ | refine ar (by omega) (by omega) ?_ | refine ar8 (by omega) (by omega) ?_ | refine ix (by omega) ?_ | refine IdxVC.mk 0 rfl (by omega) ?_ | refine BytesVC.mk _ rfl ?_ | refine DivVC.mk (by omega) (by omega) ?_ | refine RemVC.mk (by omega) (by omega) ?_ | refine GhVC.mk _ _ _ rfl ?_); set_option smartUnfolding false in conv => whnf))))
              · have he2 : ¬ z.p.1 = j := by show ¬ z.1 = j; omega
                ((set_option smartUnfolding false in conv => whnf) <;> (repeat (first | exact True.intro | ((first | refine ⟨rfl, ?_⟩ | refine ar (by omega) (by omega) ?_ | refine ar8 (by omega) (by omega) ?_ | refine ix (by omega) ?_ | refine IdxVC.mk 0 rfl (by omega) ?_ | refine BytesVC.mk _ rfl ?_ | refine DivVC.mk (by omega) (by omega) ?_ | refine RemVC.mk (by omega) (by omega) ?_ | refine GhVC.mk _ _ _ rfl ?_); set_option smartUnfolding false in conv => whnf))))
                cases o with
                | none =>
                  refine ⟨⟨(kk + 1, none), ⟨k + 1, by omega, by omega, by rw [hstep, if_neg he2]; exact hlast, ho⟩⟩, show ((D.pend.length : Int) - (kk + 1)).toNat < ((D.pend.length : Int) - kk).toNat by omega, ?_⟩
                  ((set_option smartUnfolding false in conv => whnf) <;> (repeat (first | exact True.intro | ((first | refine ⟨rfl, ?_⟩ | refine ar (by omega) (by omega) ?_ | refine ar8 (by omega) (by omega) ?_ | refine ix (by omega) ?_ | refine IdxVC.mk 0 rfl (by omega) ?_ | refine BytesVC.mk _ rfl ?_ | refine DivVC.mk (by omega) (by omega) ?_ | refine RemVC.mk (by omega) (by omega) ?_ | refine GhVC.mk _ _ _ rfl ?_); set_option smartUnfolding false in conv => whnf))))
                | some z0 =>
                  refine ⟨⟨(kk + 1, some z0), ⟨k + 1, by omega, by omega, by rw [hstep, if_neg he2]; exact hlast, ho⟩⟩, show ((D.pend.length : Int) - (kk + 1)).toNat < ((D.pend.length : Int) - kk).toNat by omega, ?_⟩
                  ((set_option smartUnfolding false in conv => whnf) <;> (repeat (first | exact True.intro | ((first | refine ⟨rfl, ?_⟩ | refine ar (by omega) (by omega) ?_ | refine ar8 (by omega) (by omega) ?_ | refine ix (by omega) ?_ | refine IdxVC.mk 0 rfl (by omega) ?_ | refine BytesVC.mk _ rfl ?_ | refine DivVC.mk (by omega) (by omega) ?_ | refine RemVC.mk (by omega) (by omega) ?_ | refine GhVC.mk _ _ _ rfl ?_); set_option smartUnfolding false in conv => whnf))))
            · have hkm2 : k = D.pend.length := by have h : ¬ kk < (D.pend.length : Int) := hl; omega
              rw [hkm2, List.take_length] at hlast
              cases o with
              | none =>
                have hb : (D.img.drop (0 + j * 512)).take (j * 512 + 512 - j * 512) = q.1 := by
                  rw [hq2]
                  show _ = lastOf j (sec D.img j) D.pend
                  rw [hlast, Nat.zero_add, show j * 512 + 512 - j * 512 = 512 by omega]; rfl
                ((set_option smartUnfolding false in conv => whnf) <;> (repeat (first | exact True.intro | ((first | refine ⟨rfl, ?_⟩ | refine ar (by omega) (by omega) ?_ | refine ar8 (by omega) (by omega) ?_ | refine ix (by omega) ?_ | refine IdxVC.mk 0 rfl (by omega) ?_ | refine BytesVC.mk _ rfl ?_ | refine DivVC.mk (by omega) (by omega) ?_ | refine RemVC.mk (by omega) (by omega) ?_ | refine GhVC.mk _ _ _ rfl ?_); set_option smartUnfolding false in conv => whnf))))
                refine call_con (N := []) (copiedR_con _ (0 + j * 512) (j * 512 + 512 - j * 512) (bc - j * 512) bc D.img (by omega) (by omega)) ?_
                ((set_option smartUnfolding false in conv => whnf) <;> (repeat (first | exact True.intro | ((first | refine ⟨rfl, ?_⟩ | refine ar (by omega) (by omega) ?_ | refine ar8 (by omega) (by omega) ?_ | refine ix (by omega) ?_ | refine IdxVC.mk 0 rfl (by omega) ?_ | refine BytesVC.mk _ rfl ?_ | refine DivVC.mk (by omega) (by omega) ?_ | refine RemVC.mk (by omega) (by omega) ?_ | refine GhVC.mk _ _ _ rfl ?_); set_option smartUnfolding false in conv => whnf))))
                rw [hb]
                rintro x P2 H' - ⟨a, c, rfl, rfl⟩
                ((set_option smartUnfolding false in conv => whnf) <;> (repeat (first | exact True.intro | ((first | refine ⟨rfl, ?_⟩ | refine ar (by omega) (by omega) ?_ | refine ar8 (by omega) (by omega) ?_ | refine ix (by omega) ?_ | refine IdxVC.mk 0 rfl (by omega) ?_ | refine BytesVC.mk _ rfl ?_ | refine DivVC.mk (by omega) (by omega) ?_ | refine RemVC.mk (by omega) (by omega) ?_ | refine GhVC.mk _ _ _ rfl ?_); set_option smartUnfolding false in conv => whnf))))
                refine ⟨rH bc lc D ka kc D.img zs, ?_⟩
                ((set_option smartUnfolding false in conv => whnf) <;> (repeat (first | exact True.intro | ((first | refine ⟨rfl, ?_⟩ | refine ar (by omega) (by omega) ?_ | refine ar8 (by omega) (by omega) ?_ | refine ix (by omega) ?_ | refine IdxVC.mk 0 rfl (by omega) ?_ | refine BytesVC.mk _ rfl ?_ | refine DivVC.mk (by omega) (by omega) ?_ | refine RemVC.mk (by omega) (by omega) ?_ | refine GhVC.mk _ _ _ rfl ?_); set_option smartUnfolding false in conv => whnf))))
                exact .inr (.inr ⟨a, c, by rw [hq2]⟩)
              | some z =>
                have hb : z.2.2.2 = q.1 := by rw [hq2]; exact hlast.symm
                have hb5 := ho z rfl
                ((set_option smartUnfolding false in conv => whnf) <;> (repeat (first | exact True.intro | ((first | refine ⟨rfl, ?_⟩ | refine ar (by omega) (by omega) ?_ | refine ar8 (by omega) (by omega) ?_ | refine ix (by omega) ?_ | refine IdxVC.mk 0 rfl (by omega) ?_ | refine BytesVC.mk _ rfl ?_ | refine DivVC.mk (by omega) (by omega) ?_ | refine RemVC.mk (by omega) (by omega) ?_ | refine GhVC.mk _ _ _ rfl ?_); set_option smartUnfolding false in conv => whnf))))
                refine call_con (N := []) (copied_con _ z.2.1 z.2.2.1 z.2.2.2 (by omega)) ?_
                ((set_option smartUnfolding false in conv => whnf) <;> (repeat (first | exact True.intro | ((first | refine ⟨rfl, ?_⟩ | refine ar (by omega) (by omega) ?_ | refine ar8 (by omega) (by omega) ?_ | refine ix (by omega) ?_ | refine IdxVC.mk 0 rfl (by omega) ?_ | refine BytesVC.mk _ rfl ?_ | refine DivVC.mk (by omega) (by omega) ?_ | refine RemVC.mk (by omega) (by omega) ?_ | refine GhVC.mk _ _ _ rfl ?_); set_option smartUnfolding false in conv => whnf))))
                rw [hb]
                rintro x P2 H' - ⟨a, c, rfl, rfl⟩
                ((set_option smartUnfolding false in conv => whnf) <;> (repeat (first | exact True.intro | ((first | refine ⟨rfl, ?_⟩ | refine ar (by omega) (by omega) ?_ | refine ar8 (by omega) (by omega) ?_ | refine ix (by omega) ?_ | refine IdxVC.mk 0 rfl (by omega) ?_ | refine BytesVC.mk _ rfl ?_ | refine DivVC.mk (by omega) (by omega) ?_ | refine RemVC.mk (by omega) (by omega) ?_ | refine GhVC.mk _ _ _ rfl ?_); set_option smartUnfolding false in conv => whnf))))
                refine ⟨rH bc lc D ka kc D.img zs, ?_⟩
                ((set_option smartUnfolding false in conv => whnf) <;> (repeat (first | exact True.intro | ((first | refine ⟨rfl, ?_⟩ | refine ar (by omega) (by omega) ?_ | refine ar8 (by omega) (by omega) ?_ | refine ix (by omega) ?_ | refine IdxVC.mk 0 rfl (by omega) ?_ | refine BytesVC.mk _ rfl ?_ | refine DivVC.mk (by omega) (by omega) ?_ | refine RemVC.mk (by omega) (by omega) ?_ | refine GhVC.mk _ _ _ rfl ?_); set_option smartUnfolding false in conv => whnf))))
                exact .inr (.inr ⟨a, c, by rw [hq2]⟩)
  · rintro x P' H' ⟨rfl, h | h | ⟨a, c, rfl⟩⟩
    · obtain ⟨hq2, rfl⟩ := h
      refine ⟨.tup [.bs none 0 [], .raw (.int .i64 80)], fun ρ => rfl, fun ρ wb P h => ?_, none, 0, by rw [hq2], rfl⟩
      simp only [SV.ok, okL, and_true]; exact rd_nil wb P 1
    · obtain ⟨hq2, rfl⟩ := h
      refine ⟨.tup [.bs none 0 [], .raw (.int .i64 81)], fun ρ => rfl, fun ρ wb P h => ?_, none, 0, by rw [hq2], rfl⟩
      simp only [SV.ok, okL, and_true]; exact rd_nil wb P 1
    · exact ⟨_, fun ρ => rfl, fun ρ wb P h => h, a, c, rfl, rfl⟩
set_option maxRecDepth 100000 in
/-- NEW -/
theorem RNew_con (P : Hp) (k : Nat) (h1 : 1 ≤ k) (h2 : k ≤ 4096) : Con Try.prog [] 38 [.raw (.int .i64 (k : Int))] P [] fun x P' H' => x = .tup [.ptr 300 0, .raw (.int .i64 0)] ∧ P' = P ∧ H' = rH (k * 512) 0 (Dev.fresh (zrs (k * 512))) none 0 (zrs (k * 512)) [] := by
  have hlen : (zrs (k * 512)).length = k * 512 := zrs_length _
  have h : Con Try.prog [] 38 [.raw (.int .i64 (k : Int))] P [] fun x P' H' => x = .tup [.ptr 300 0, .raw (.int .i64 0)] ∧ P' = P ∧ H' = [.blk 300 95 [.sl 301 1 0 (k * 512) (k * 512), .raw (.slice none 0 0), .raw (.bool false), .raw (.int .i64 0), .raw (.slice none 0 0), .raw (.int .i64 0), .raw (.int .i64 0), .raw (.int .i64 0)], .row 301 5 (k * 512) (Eng.bytes (zrs (k * 512)))] := by
    refine Con.ren (con_of_fun T_good (by kernel_rfl) Try.call38 Try.func38 (by kernel_rfl) (by show 1 ≤ _; decide +kernel) ?_)
    ((set_option smartUnfolding false in conv => whnf) <;> (repeat (first | exact True.intro | ((first | refine ⟨rfl, ?_⟩ | refine ar (by omega) (by omega) ?_ | refine ar8 (by omega) (by omega) ?_ | refine ix (by omega) ?_ | refine IdxVC.mk 0 rfl (by omega) ?_ | refine BytesVC.mk _ rfl ?_ | refine DivVC.mk (by omega) (by omega) ?_ | refine RemVC.mk (by omega) (by omega) ?_ | refine GhVC.mk _ _ _ rfl ?_); set_option smartUnfolding false in conv => whnf))))
    refine bxd (fun h => by omega) (fun _ => ?_)
    ((set_option smartUnfolding false in conv => whnf) <;> (repeat (first | exact True.intro | ((first | refine ⟨rfl, ?_⟩ | refine ar (by omega) (by omega) ?_ | refine ar8 (by omega) (by omega) ?_ | refine ix (by omega) ?_ | refine IdxVC.mk 0 rfl (by omega) ?_ | refine BytesVC.mk _ rfl ?_ | refine DivVC.mk (by omega) (by omega) ?_ | refine RemVC.mk (by omega) (by omega) ?_ | refine GhVC.mk _ _ _ rfl ?_); set_option smartUnfolding false in conv => whnf))))
    refine bxd (fun h => by omega) (fun _ => ?_)
    ((set_option smartUnfolding false in conv => whnf) <;> (repeat (first | exact True.intro | ((first | refine ⟨rfl, ?_⟩ | refine ar (by omega) (by omega) ?_ | refine ar8 (by omega) (by omega) ?_ | refine ix (by omega) ?_ | refine IdxVC.mk 0 rfl (by omega) ?_ | refine BytesVC.mk _ rfl ?_ | refine DivVC.mk (by omega) (by omega) ?_ | refine RemVC.mk (by omega) (by omega) ?_ | refine GhVC.mk _ _ _ rfl ?_); set_option smartUnfolding false in conv => whnf))))
    refine .mk (k * 512) (k * 512) (by omega) (by omega) (Nat.le_refl _) (by show k * 512 * 1 ≤ _; omega) (by omega) ?_
    ((set_option smartUnfolding false in conv => whnf) <;> (repeat (first | exact True.intro | ((first | refine ⟨rfl, ?_⟩ | refine ar (by omega) (by omega) ?_ | refine ar8 (by omega) (by omega) ?_ | refine ix (by omega) ?_ | refine IdxVC.mk 0 rfl (by omega) ?_ | refine BytesVC.mk _ rfl ?_ | refine DivVC.mk (by omega) (by omega) ?_ | refine RemVC.mk (by omega) (by omega) ?_ | refine GhVC.mk _ _ _ rfl ?_); set_option smartUnfolding false in conv => whnf))))
    refine ⟨[(14, 300), (12, 301)], rfl, rfl, ?_⟩
    ((set_option smartUnfolding false in conv => whnf) <;> (repeat (first | exact True.intro | ((first | refine ⟨rfl, ?_⟩ | refine ar (by omega) (by omega) ?_ | refine ar8 (by omega) (by omega) ?_ | refine ix (by omega) ?_ | refine IdxVC.mk 0 rfl (by omega) ?_ | refine BytesVC.mk _ rfl ?_ | refine DivVC.mk (by omega) (by omega) ?_ | refine RemVC.mk (by omega) (by omega) ?_ | refine GhVC.mk _ _ _ rfl ?_); set_option smartUnfolding false in conv => whnf))))
    rfl
  refine Con.unnilR 300 4 (keepC []) rfl (Con.sub (Con.unnil 300 1 302 76 (pdC []) rfl rfl (h.mono ?_)))
  rintro x P' H' ⟨rfl, rfl, rfl⟩
  refine ⟨rfl, ?_⟩
  ((set_option smartUnfolding false in conv => whnf) <;> (repeat (first | exact True.intro | ((first | refine ⟨rfl, ?_⟩ | refine ar (by omega) (by omega) ?_ | refine ar8 (by omega) (by omega) ?_ | refine ix (by omega) ?_ | refine IdxVC.mk 0 rfl (by omega) ?_ | refine BytesVC.mk _ rfl ?_ | refine DivVC.mk (by omega) (by omega) ?_ | refine RemVC.mk (by omega) (by omega) ?_ | refine GhVC.mk _ _ _ rfl ?_); set_option smartUnfolding false in conv => whnf))))
  refine ⟨[.blk 300 95 [.sl 301 1 0 (k * 512) (k * 512), .sl 302 2 0 0 0, .raw (.bool false), .raw (.int .i64 0), .raw (.slice none 0 0), .raw (.int .i64 0), .raw (.int .i64 0), .raw (.int .i64 0)], .row 301 5 (k * 512) (Eng.bytes (zrs (k * 512))), .row 302 76 0 (pdC [])], ?_⟩
  ((set_option smartUnfolding false in conv => whnf) <;> (repeat (first | exact True.intro | ((first | refine ⟨rfl, ?_⟩ | refine ar (by omega) (by omega) ?_ | refine ar8 (by omega) (by omega) ?_ | refine ix (by omega) ?_ | refine IdxVC.mk 0 rfl (by omega) ?_ | refine BytesVC.mk _ rfl ?_ | refine DivVC.mk (by omega) (by omega) ?_ | refine RemVC.mk (by omega) (by omega) ?_ | refine GhVC.mk _ _ _ rfl ?_); set_option smartUnfolding false in conv => whnf))))
  show _ = [Ck.blk 300 _ (.sl 301 1 0 (zrs (k * 512)).length (k * 512) :: _), _, _]
  rw [hlen]
  rfl
set_option maxRecDepth 100000 in
theorem RNewNo_con (P : Hp) (n : Int) (h : n < 1 ∨ 4096 < n) : Con Try.prog [] 38 [.raw (.int .i64 n)] P [] fun x P' H' => x = .tup [.raw (.pointer none), .raw (.int .i64 4)] ∧ P' = P ∧ H' = [] := by
  refine con_of_fun T_good (by kernel_rfl) Try.call38 Try.func38 (by kernel_rfl) (by show 1 ≤ _; decide +kernel) ?_
  ((set_option smartUnfolding false in conv => whnf) <;> (repeat (first | exact True.intro | ((first | refine ⟨rfl, ?_⟩ | refine ar (by omega) (by omega) ?_ | refine ar8 (by omega) (by omega) ?_ | refine ix (by omega) ?_ | refine IdxVC.mk 0 rfl (by omega) ?_ | refine BytesVC.mk _ rfl ?_ | refine DivVC.mk (by omega) (by omega) ?_ | refine RemVC.mk (by omega) (by omega) ?_ | refine GhVC.mk _ _ _ rfl ?_); set_option smartUnfolding false in conv => whnf))))
  refine bxd (fun h => ?_) (fun h => ?_)
  · ((set_option smartUnfolding false in conv => whnf) <;> (repeat (first | exact True.intro | ((first | refine ⟨rfl, ?_⟩ | refine ar (by omega) (by omega) ?_ | refine ar8 (by omega) (by omega) ?_ | refine ix (by omega) ?_ | refine IdxVC.mk 0 rfl (by omega) ?_ | refine BytesVC.mk _ rfl ?_ | refine DivVC.mk (by omega) (by omega) ?_ | refine RemVC.mk (by omega) (by omega) ?_ | refine GhVC.mk _ _ _ rfl ?_); set_option smartUnfolding false in conv => whnf))))
  · ((set_option smartUnfolding false in conv => whnf) <;> (repeat (first | exact True.intro | ((first | refine ⟨rfl, ?_⟩ | refine ar (by omega) (by omega) ?_ | refine ar8 (by omega) (by omega) ?_ | refine ix (by omega) ?_ | refine IdxVC.mk 0 rfl (by omega) ?_ | refine BytesVC.mk _ rfl ?_ | refine DivVC.mk (by omega) (by omega) ?_ | refine RemVC.mk (by omega) (by omega) ?_ | refine GhVC.mk _ _ _ rfl ?_); set_option smartUnfolding false in conv => whnf))))
    refine bxd (fun h => ?_) (fun h => by omega)
    ((set_option smartUnfolding false in conv => whnf) <;> (repeat (first | exact True.intro | ((first | refine ⟨rfl, ?_⟩ | refine ar (by omega) (by omega) ?_ | refine ar8 (by omega) (by omega) ?_ | refine ix (by omega) ?_ | refine IdxVC.mk 0 rfl (by omega) ?_ | refine BytesVC.mk _ rfl ?_ | refine DivVC.mk (by omega) (by omega) ?_ | refine RemVC.mk (by omega) (by omega) ?_ | refine GhVC.mk _ _ _ rfl ?_); set_option smartUnfolding false in conv => whnf))))
set_option maxRecDepth 100000 in
/-- LOAD -/
theorem RLoad_con (P : Hp) (a : Option Addr) (cap : Nat) (l : List UInt8) (hn : ∃ k, l.length = k * 512 ∧ 1 ≤ k ∧ k ≤ 4096) : Con Try.prog [] 37 [.bs a cap l] P [] fun x P' H' => ∃ bc, l.length ≤ bc ∧ x = .tup [.ptr 300 0, .raw (.int .i64 0)] ∧ P' = P ∧ H' = rH bc 0 (Dev.fresh l) none 0 l [] := by
  obtain ⟨k, hk, k1, k2⟩ := hn
  have h : Con Try.prog [] 37 [.bs a cap l] P [] fun x P' H' => ∃ bc, l.length ≤ bc ∧ x = .tup [.ptr 300 0, .raw (.int .i64 0)] ∧ P' = P ∧ H' = [.blk 300 95 [.sl 301 1 0 l.length bc, .raw (.slice none 0 0), .raw (.bool false), .raw (.int .i64 0), .raw (.slice none 0 0), .raw (.int .i64 0), .raw (.int .i64 0), .raw (.int .i64 0)], .row 301 5 bc (Eng.bytes l)] := by
    refine Con.ren (con_of_fun T_good (by kernel_rfl) Try.call37 Try.func37 (by kernel_rfl) (by show 1 ≤ _; decide +kernel) ?_)
    ((set_option smartUnfolding false in conv => whnf) <;> (repeat (first | exact True.intro | ((first | refine ⟨rfl, ?_⟩ | refine ar (by omega) (by omega) ?_ | refine ar8 (by omega) (by omega) ?_ | refine ix (by omega) ?_ | refine IdxVC.mk 0 rfl (by omega) ?_ | refine BytesVC.mk _ rfl ?_ | refine DivVC.mk (by omega) (by omega) ?_ | refine RemVC.mk (by omega) (by omega) ?_ | refine GhVC.mk _ _ _ rfl ?_); set_option smartUnfolding false in conv => whnf))))
    refine bxd (fun h => by omega) (fun _ => ?_)
    ((set_option smartUnfolding false in conv => whnf) <;> (repeat (first | exact True.intro | ((first | refine ⟨rfl, ?_⟩ | refine ar (by omega) (by omega) ?_ | refine ar8 (by omega) (by omega) ?_ | refine ix (by omega) ?_ | refine IdxVC.mk 0 rfl (by omega) ?_ | refine BytesVC.mk _ rfl ?_ | refine DivVC.mk (by omega) (by omega) ?_ | refine RemVC.mk (by omega) (by omega) ?_ | refine GhVC.mk _ _ _ rfl ?_); set_option smartUnfolding false in conv => whnf))))
    refine bxn (fun h => by omega) (fun _ => ?_)
    ((set_option smartUnfolding false in conv => whnf) <;> (repeat (first | exact True.intro | ((first | refine ⟨rfl, ?_⟩ | refine ar (by omega) (by omega) ?_ | refine ar8 (by omega) (by omega) ?_ | refine ix (by omega) ?_ | refine IdxVC.mk 0 rfl (by omega) ?_ | refine BytesVC.mk _ rfl ?_ | refine DivVC.mk (by omega) (by omega) ?_ | refine RemVC.mk (by omega) (by omega) ?_ | refine GhVC.mk _ _ _ rfl ?_); set_option smartUnfolding false in conv => whnf))))
    refine bxd (fun h => by omega) (fun _ => ?_)
    ((set_option smartUnfolding false in conv => whnf) <;> (repeat (first | exact True.intro | ((first | refine ⟨rfl, ?_⟩ | refine ar (by omega) (by omega) ?_ | refine ar8 (by omega) (by omega) ?_ | refine ix (by omega) ?_ | refine IdxVC.mk 0 rfl (by omega) ?_ | refine BytesVC.mk _ rfl ?_ | refine DivVC.mk (by omega) (by omega) ?_ | refine RemVC.mk (by omega) (by omega) ?_ | refine GhVC.mk _ _ _ rfl ?_); set_option smartUnfolding false in conv => whnf))))
    refine call_con (N := [40]) (copiedW_con _ a cap l (by omega)) ?_
    ((set_option smartUnfolding false in conv => whnf) <;> (repeat (first | exact True.intro | ((first | refine ⟨rfl, ?_⟩ | refine ar (by omega) (by omega) ?_ | refine ar8 (by omega) (by omega) ?_ | refine ix (by omega) ?_ | refine IdxVC.mk 0 rfl (by omega) ?_ | refine BytesVC.mk _ rfl ?_ | refine DivVC.mk (by omega) (by omega) ?_ | refine RemVC.mk (by omega) (by omega) ?_ | refine GhVC.mk _ _ _ rfl ?_); set_option smartUnfolding false in conv => whnf))))
    rintro x P1 H' - ⟨c, hc, rfl, rfl, rfl⟩
    ((set_option smartUnfolding false in conv => whnf) <;> (repeat (first | exact True.intro | ((first | refine ⟨rfl, ?_⟩ | refine ar (by omega) (by omega) ?_ | refine ar8 (by omega) (by omega) ?_ | refine ix (by omega) ?_ | refine IdxVC.mk 0 rfl (by omega) ?_ | refine BytesVC.mk _ rfl ?_ | refine DivVC.mk (by omega) (by omega) ?_ | refine RemVC.mk (by omega) (by omega) ?_ | refine GhVC.mk _ _ _ rfl ?_); set_option smartUnfolding false in conv => whnf))))
    refine ⟨[(21, 300), (19, 301)], rfl, rfl, ?_⟩
    ((set_option smartUnfolding false in conv => whnf) <;> (repeat (first | exact True.intro | ((first | refine ⟨rfl, ?_⟩ | refine ar (by omega) (by omega) ?_ | refine ar8 (by omega) (by omega) ?_ | refine ix (by omega) ?_ | refine IdxVC.mk 0 rfl (by omega) ?_ | refine BytesVC.mk _ rfl ?_ | refine DivVC.mk (by omega) (by omega) ?_ | refine RemVC.mk (by omega) (by omega) ?_ | refine GhVC.mk _ _ _ rfl ?_); set_option smartUnfolding false in conv => whnf))))
    exact ⟨c, hc, rfl, rfl, rfl⟩
  refine Con.unnilR 300 4 (keepC []) rfl (Con.sub (Con.unnil 300 1 302 76 (pdC []) rfl rfl (h.mono ?_)))
  rintro x P' H' ⟨bc, hbc, rfl, rfl, rfl⟩
  refine ⟨rfl, ?_⟩
  ((set_option smartUnfolding false in conv => whnf) <;> (repeat (first | exact True.intro | ((first | refine ⟨rfl, ?_⟩ | refine ar (by omega) (by omega) ?_ | refine ar8 (by omega) (by omega) ?_ | refine ix (by omega) ?_ | refine IdxVC.mk 0 rfl (by omega) ?_ | refine BytesVC.mk _ rfl ?_ | refine DivVC.mk (by omega) (by omega) ?_ | refine RemVC.mk (by omega) (by omega) ?_ | refine GhVC.mk _ _ _ rfl ?_); set_option smartUnfolding false in conv => whnf))))
  refine ⟨[.blk 300 95 [.sl 301 1 0 l.length bc, .sl 302 2 0 0 0, .raw (.bool false), .raw (.int .i64 0), .raw (.slice none 0 0), .raw (.int .i64 0), .raw (.int .i64 0), .raw (.int .i64 0)], .row 301 5 bc (Eng.bytes l), .row 302 76 0 (pdC [])], ?_⟩
  ((set_option smartUnfolding false in conv => whnf) <;> (repeat (first | exact True.intro | ((first | refine ⟨rfl, ?_⟩ | refine ar (by omega) (by omega) ?_ | refine ar8 (by omega) (by omega) ?_ | refine ix (by omega) ?_ | refine IdxVC.mk 0 rfl (by omega) ?_ | refine BytesVC.mk _ rfl ?_ | refine DivVC.mk (by omega) (by omega) ?_ | refine RemVC.mk (by omega) (by omega) ?_ | refine GhVC.mk _ _ _ rfl ?_); set_option smartUnfolding false in conv => whnf))))
  exact ⟨bc, hbc, rfl, rfl, rfl⟩
set_option maxRecDepth 100000 in
theorem RLoadNo_con (P : Hp) (a : Option Addr) (cap : Nat) (l : List UInt8) (hn : ¬ ∃ k, l.length = k * 512 ∧ 1 ≤ k ∧ k ≤ 4096) : Con Try.prog [] 37 [.bs a cap l] P [] fun x P' H' => x = .tup [.raw (.pointer none), .raw (.int .i64 83)] ∧ P' = P ∧ H' = [] := by
  refine con_of_fun T_good (by kernel_rfl) Try.call37 Try.func37 (by kernel_rfl) (by show 1 ≤ _; decide +kernel) ?_
  ((set_option smartUnfolding false in conv => whnf) <;> (repeat (first | exact True.intro | ((first | refine ⟨rfl, ?_⟩ | refine ar (by omega) (by omega) ?_ | refine ar8 (by omega) (by omega) ?_ | refine ix (by omega) ?_ | refine IdxVC.mk 0 rfl (by omega) ?_ | refine BytesVC.mk _ rfl ?_ | refine DivVC.mk (by omega) (by omega) ?_ | refine RemVC.mk (by omega) (by omega) ?_ | refine GhVC.mk _ _ _ rfl ?_); set_option smartUnfolding false in conv => whnf))))
  refine bxd (fun h => ?_) (fun h0 => ?_)
  · ((set_option smartUnfolding false in conv => whnf) <;> (repeat (first | exact True.intro | ((first | refine ⟨rfl, ?_⟩ | refine ar (by omega) (by omega) ?_ | refine ar8 (by omega) (by omega) ?_ | refine ix (by omega) ?_ | refine IdxVC.mk 0 rfl (by omega) ?_ | refine BytesVC.mk _ rfl ?_ | refine DivVC.mk (by omega) (by omega) ?_ | refine RemVC.mk (by omega) (by omega) ?_ | refine GhVC.mk _ _ _ rfl ?_); set_option smartUnfolding false in conv => whnf))))
  · ((set_option smartUnfolding false in conv => whnf) <;> (repeat (first | exact True.intro | ((first | refine ⟨rfl, ?_⟩ | refine ar (by omega) (by omega) ?_ | refine ar8 (by omega) (by omega) ?_ | refine ix (by omega) ?_ | refine IdxVC.mk 0 rfl (by omega) ?_ | refine BytesVC.mk _ rfl ?_ | refine DivVC.mk (by omega) (by omega) ?_ | refine RemVC.mk (by omega) (by omega) ?_ | refine GhVC.mk _ _ _ rfl ?_); set_option smartUnfolding false in conv => whnf))))
    refine bxn (fun h => ?_) (fun h => ?_)
    · ((set_option smartUnfolding false in conv => whnf) <;> (repeat (first | exact True.intro | ((first | refine ⟨rfl, ?_⟩ | refine ar (by omega) (by omega) ?_ | refine ar8 (by omega) (by omega) ?_ | refine ix (by omega) ?_ | refine IdxVC.mk 0 rfl (by omega) ?_ | refine BytesVC.mk _ rfl ?_ | refine DivVC.mk (by omega) (by omega) ?_ | refine RemVC.mk (by omega) (by omega) ?_ | refine GhVC.mk _ _ _ rfl ?_); set_option smartUnfolding false in conv => whnf))))
    · ((set_option smartUnfolding false in conv => whnf) <;> (repeat (first | exact True.intro | ((first | refine ⟨rfl, ?_⟩ | refine ar (by omega) (by omega) ?_ | refine ar8 (by omega) (by omega) ?_ | refine ix (by omega) ?_ | refine IdxVC.mk 0 rfl (by omega) ?_ | refine BytesVC.mk _ rfl ?_ | refine DivVC.mk (by omega) (by omega) ?_ | refine RemVC.mk (by omega) (by omega) ?_ | refine GhVC.mk _ _ _ rfl ?_); set_option smartUnfolding false in conv => whnf))))
      refine bxd (fun h => ?_) (fun h2 => (hn ⟨l.length / 512, by omega, by omega, by omega⟩).elim)
      ((set_option smartUnfolding false in conv => whnf) <;> (repeat (first | exact True.intro | ((first | refine ⟨rfl, ?_⟩ | refine ar (by omega) (by omega) ?_ | refine ar8 (by omega) (by omega) ?_ | refine ix (by omega) ?_ | refine IdxVC.mk 0 rfl (by omega) ?_ | refine BytesVC.mk _ rfl ?_ | refine DivVC.mk (by omega) (by omega) ?_ | refine RemVC.mk (by omega) (by omega) ?_ | refine GhVC.mk _ _ _ rfl ?_); set_option smartUnfolding false in conv => whnf))))
end Go.Proofs.Ytpdppacafkdgdaa
