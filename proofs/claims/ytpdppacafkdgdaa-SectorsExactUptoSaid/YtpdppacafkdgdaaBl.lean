/- The law's book: takeCache, by the engine. -/
import Derived.Test.YtpdppacafkdgdaaBk
set_option linter.unusedVariables false
set_option linter.unusedSimpArgs false
namespace Go.Proofs.Ytpdppacafkdgdaa
open Go Go.RowKit Go.Le Go.Eng
/-- TAKE of bytes that only a list of writes names -/
theorem takeRaw_con (P : Hp) (gc wc lc : Nat) (m : Int) (gs : List Gt) (ls : List Lt) (hm0 : 0 ≤ m) (hm1 : m ≤ 1000000000) (hg : gs.length ≤ 100000000) (z : Pq) (r : List Pq) (hl : z.1.2.length ≤ 1000000000) :
    Con Try.prog [500, 503] 46 [.ptr 500 0, .raw (.slice z.2.1 z.1.2.length z.2.2)] P (bH gc wc lc m gs ls ++ [pqRows (z :: r)]) fun x P' H' => ∃ gc' wc' gs', x = .tup [] ∧ gs'.length = gs.length + 2 ∧ H' = bH gc' wc' lc (m + 1) gs' ls ++ [pqRows r] := by
  have ht := take_con P gc wc lc m gs ls hm0 hm1 hg z.1.2 hl z.2.2
  refine ⟨ht.1, fun ρ wb w R hM ho => ?_⟩
  have e540 : pl [(540, z.2.1)] ρ 540 = z.2.1 := by simp [pl]
  have eo : ∀ n, n ≠ 540 → pl [(540, z.2.1)] ρ n = ρ n := fun n hn => by simp [pl, Ne.symm hn]
  have hno : hasC 540 (bH gc wc lc m gs ls) = false := rfl
  have hs := star_agree1 (wb := wb) (P := P) hno eo
  have e1 : ∀ (ρ : Places) (l : List Pq), star ρ [pqRows l] = all (l.map (pzRow 5)) := fun ρ l => sep_emp _
  have e2 : star (pl [(540, z.2.1)] ρ) [.row 540 5 z.2.2 (Eng.bytes z.1.2)] = pzRow 5 z := by
    show Ck.den _ (rowU 540 z.2.2 z.1.2) * emp = _
    rw [sep_emp, rowU_den, e540]; rfl
  obtain ⟨B, hB⟩ : ∃ B, B = bH gc wc lc m gs ls := ⟨_, rfl⟩
  rw [← hB] at hM hs ht
  have hm : Mem wb w (own P * (star ρ B * (pzRow 5 z * all (r.map (pzRow 5)))) * R) := by
    have := hM.mem
    rw [star_append, e1] at this
    exact this.eq (by
      show own P * (star ρ B * (pzRow 5 z * all (r.map (pzRow 5))) * R) = _
      ac_rfl)
  have hm2 : Mem wb w (own P * (star (pl [(540, z.2.1)] ρ) (B ++ [.row 540 5 z.2.2 (Eng.bytes z.1.2)]) * (all (r.map (pzRow 5)) * R))) := by
    rw [star_append, hs.1, e2]
    exact hm.eq (by ac_rfl)
  have hro : Mem wb w (Le.row 5 1 z.2.1 z.1.2.length z.2.2 (byts z.1.2) * (own P * star ρ B * all (r.map (pzRow 5)) * R)) := hm.eq (by
    show _ = pzRow 5 z * _
    ac_rfl)
  have hok := okC_append.1 hM.ok
  have hc := ht.2 (pl [(540, z.2.1)] ρ) wb w (all (r.map (pzRow 5)) * R) ⟨hm2, okC_append.2 ⟨hs.2 hok.1, ⟨rowU_ok (pl [(540, z.2.1)] ρ) _ _ _ _ _, trivial⟩⟩⟩ (by
    simp only [okL, SV.ok, e540, eo 500 (by omega)] at ho ⊢
    exact ⟨ho.1, row_ok hro, trivial⟩)
  have ed : denL (pl [(540, z.2.1)] ρ) [.ptr 500 0, .sl 540 1 0 z.1.2.length z.2.2] = denL ρ [.ptr 500 0, .raw (.slice z.2.1 z.1.2.length z.2.2)] := by
    have e3 : (SV.sl 540 1 0 z.1.2.length z.2.2).den (pl [(540, z.2.1)] ρ) = .slice z.2.1 z.1.2.length z.2.2 := by rw [sl0, e540]
    simp only [denL, e3]
    simp only [SV.den, eo 500 (by omega)]
  rw [ed] at hc
  refine hc.mono ?_
  rintro e w' ⟨ρ', x, P', H', h1, rfl, h3, hM', h5, gc', wc', gs', rfl, h7, rfl⟩
  refine ⟨ρ', .tup [], P', bH gc' wc' lc (m + 1) gs' ls ++ [pqRows r], fun n hn => ?_, rfl, h3, ⟨?_, okC_append.2 ⟨hM'.ok, ⟨trivial, trivial⟩⟩⟩, h5, gc', wc', gs', rfl, h7, rfl⟩
  · rw [h1 n hn, eo n (by rintro rfl; exact absurd hn (by decide))]
  · rw [star_append, e1]
    have := hM'.mem
    obtain ⟨B', hB'⟩ : ∃ B', B' = bH gc' wc' lc (m + 1) gs' ls := ⟨_, rfl⟩
    rw [← hB'] at this ⊢
    exact this.eq (by ac_rfl)
theorem LsOk.snoc {ls : List Lt} (h : LsOk ls) (a a' : Option Addr) (c c' n : Nat) (hn : n ≤ 900000) : LsOk (ls ++ [(a, c, -1 - ((ls.length / 2 : Nat) : Int), n), (a', c', -1 - ((ls.length / 2 : Nat) : Int), n + 8)]) := by
  have he := h.even
  refine ⟨by rw [List.length_append]; show (ls.length + 2) % 2 = 0; omega, fun i y hy => ?_⟩
  by_cases h1 : i < ls.length
  · rw [List.getElem?_append_left h1] at hy
    exact h.at_ i y hy
  · rw [List.getElem?_append_right (by omega)] at hy
    have hlt := (List.getElem?_eq_some_iff.1 hy).1
    have hlt : i - ls.length < 2 := hlt
    by_cases h2 : i - ls.length = 0
    · rw [h2] at hy
      have hy : (a, c, -1 - ((ls.length / 2 : Nat) : Int), n) = y := by simpa using hy
      subst hy
      exact ⟨by rw [show i = ls.length by omega], by show n ≤ 1000000; omega⟩
    · rw [show i - ls.length = 1 by omega] at hy
      have hy : (a', c', -1 - ((ls.length / 2 : Nat) : Int), n + 8) = y := by simpa using hy
      subst hy
      exact ⟨by show -1 - ((ls.length / 2 : Nat) : Int) = -1 - ((i / 2 : Nat) : Int); rw [show i / 2 = ls.length / 2 by omega], by show n + 8 ≤ 1000000; omega⟩
set_option maxRecDepth 100000 in
set_option maxHeartbeats 4000000 in
theorem takeCache_con (P : Hp) (gc wc lc : Nat) (m : Int) (gs : List Gt) (ls : List Lt) (hls : LsOk ls) (hm0 : 0 ≤ m) (hm1 : m ≤ 900000000) (hg : gs.length ≤ 90000000) (hl : ls.length ≤ 90000000) (zs : List Pq) (hz : zs.length ≤ 900000) (hzb : ∀ z ∈ zs, z.1.2.length ≤ 1000000000) :
    Con Try.prog [500] 55 [.ptr 500 0, .sl 520 2 0 zs.length zs.length] P (bH gc wc lc m gs ls ++ [.row 520 76 zs.length (pqC zs), pqRows zs]) fun x P' H' => ∃ gc' wc' lc' gs' ls', x = .tup [] ∧ gs'.length = gs.length + 2 * zs.length ∧ ls'.length = ls.length + 2 ∧ LsOk ls' ∧ H' = bH gc' wc' lc' (m + zs.length) gs' ls' := by
  have hzl : (zs.map pqEnc).length = zs.length := List.length_map ..
  refine Con.share 520 (Con.sub (Con.ren (con_of_fun T_good (by kernel_rfl) Try.call55 Try.func55 (by kernel_rfl) (by show 2 ≤ _; decide +kernel) ?_)))
  ((set_option smartUnfolding false in conv => whnf) <;> (repeat (first | exact True.intro | ((first | refine ⟨rfl, ?_⟩ | refine ar (by omega) (by omega) ?_ | refine ar8 (by omega) (by omega) ?_ | refine ix (by omega) ?_ | refine IdxVC.mk 0 rfl (by omega) ?_ | refine BytesVC.mk _ rfl ?_ | refine DivVC.mk (by omega) (by omega) ?_ | refine RemVC.mk (by omega) (by omega) ?_ | refine GhVC.mk _ _ _ rfl ?_); set_option smartUnfolding false in conv => whnf))))
  refine .mk (β := { y : (Int × Hp) × (Int × List Pq) × (Nat × Nat × List Gt) // ∃ k : Nat, y.1.1 = (k : Int) ∧ k ≤ zs.length ∧ y.2.1.1 = m + (k : Int) ∧ y.2.1.2 = zs.drop k ∧ y.2.2.2.2.length = gs.length + 2 * k }) (fun ⟨((kk, P1), (mm, r), (gc1, wc1, gs1)), _⟩ => ⟨[(4, .raw (.int .i64 kk)), (1, .sl 520 2 0 zs.length zs.length), (0, .ptr 500 0)], P1, shm 520 :: (bH gc1 wc1 lc mm gs1 ls ++ [.row 520 76 zs.length (pqC zs), pqRows r])⟩) (fun b => ((zs.length : Int) - b.1.1.1).toNat) ⟨((0, P), (m, zs), (gc, wc, gs)), ⟨0, rfl, Nat.zero_le _, (Int.add_zero m).symm, rfl, rfl⟩⟩ ?_ ?_
  · ((set_option smartUnfolding false in conv => whnf) <;> (repeat (first | exact True.intro | ((first | refine ⟨rfl, ?_⟩ | refine ar (by omega) (by omega) ?_ | refine ar8 (by omega) (by omega) ?_ | refine ix (by omega) ?_ | refine IdxVC.mk 0 rfl (by omega) ?_ | refine BytesVC.mk _ rfl ?_ | refine DivVC.mk (by omega) (by omega) ?_ | refine RemVC.mk (by omega) (by omega) ?_ | refine GhVC.mk _ _ _ rfl ?_); set_option smartUnfolding false in conv => whnf))))
  · rintro ⟨⟨⟨kk, P1⟩, ⟨mm, r⟩, ⟨gc1, wc1, gs1⟩⟩, hk'⟩ -
    obtain ⟨k, hkk, hkm, hmm, hr, hgs1⟩ : ∃ k : Nat, kk = (k : Int) ∧ k ≤ zs.length ∧ mm = m + (k : Int) ∧ r = zs.drop k ∧ gs1.length = gs.length + 2 * k := hk'
    ((set_option smartUnfolding false in conv => whnf) <;> (repeat (first | exact True.intro | ((first | refine ⟨rfl, ?_⟩ | refine ar (by omega) (by omega) ?_ | refine ar8 (by omega) (by omega) ?_ | refine ix (by omega) ?_ | refine IdxVC.mk 0 rfl (by omega) ?_ | refine BytesVC.mk _ rfl ?_ | refine DivVC.mk (by omega) (by omega) ?_ | refine RemVC.mk (by omega) (by omega) ?_ | refine GhVC.mk _ _ _ rfl ?_); set_option smartUnfolding false in conv => whnf))))
    refine bxd (fun h => ?_) (fun h => ?_)
    · have hlt : k < zs.length := by omega
      obtain ⟨z, hzk⟩ : ∃ z, zs[k]? = some z := ⟨zs[k], List.getElem?_eq_getElem hlt⟩
      have hrz : r = z :: zs.drop (k + 1) := by
        rw [hr, List.drop_eq_getElem_cons hlt]
        rw [List.getElem?_eq_getElem hlt] at hzk
        rw [Option.some.inj hzk]
      have hld : (zs.map pqEnc)[0 + k]? = some (pqEnc z) := by rw [Nat.zero_add, List.getElem?_map, hzk]; rfl
      subst hrz
      ((set_option smartUnfolding false in conv => whnf) <;> (repeat (first | exact True.intro | ((first | refine ⟨rfl, ?_⟩ | refine ar (by omega) (by omega) ?_ | refine ar8 (by omega) (by omega) ?_ | refine ix (by omega) ?_ | refine IdxVC.mk 0 rfl (by omega) ?_ | refine BytesVC.mk _ rfl ?_ | refine DivVC.mk (by omega) (by omega) ?_ | refine RemVC.mk (by omega) (by omega) ?_ | refine GhVC.mk _ _ _ rfl ?_); set_option smartUnfolding false in conv => whnf))))
      refine IdxVC.mk k hkk hlt ?_
      ((set_option smartUnfolding false in conv => whnf) <;> (repeat (first | exact True.intro | ((first | refine ⟨rfl, ?_⟩ | refine ar (by omega) (by omega) ?_ | refine ar8 (by omega) (by omega) ?_ | refine ix (by omega) ?_ | refine IdxVC.mk 0 rfl (by omega) ?_ | refine BytesVC.mk _ rfl ?_ | refine DivVC.mk (by omega) (by omega) ?_ | refine RemVC.mk (by omega) (by omega) ?_ | refine GhVC.mk _ _ _ rfl ?_); set_option smartUnfolding false in conv => whnf))))
      refine .mk (pqEnc z) hld ?_
      ((set_option smartUnfolding false in conv => whnf) <;> (repeat (first | exact True.intro | ((first | refine ⟨rfl, ?_⟩ | refine ar (by omega) (by omega) ?_ | refine ar8 (by omega) (by omega) ?_ | refine ix (by omega) ?_ | refine IdxVC.mk 0 rfl (by omega) ?_ | refine BytesVC.mk _ rfl ?_ | refine DivVC.mk (by omega) (by omega) ?_ | refine RemVC.mk (by omega) (by omega) ?_ | refine GhVC.mk _ _ _ rfl ?_); set_option smartUnfolding false in conv => whnf))))
      refine call_conR [(501, 501), (502, 502)] (takeRaw_con _ gc1 wc1 lc mm gs1 ls (by omega) (by omega) (by omega) z (zs.drop (k + 1)) (hzb z (List.mem_of_getElem? hzk))) ?_
      ((set_option smartUnfolding false in conv => whnf) <;> (repeat (first | exact True.intro | ((first | refine ⟨rfl, ?_⟩ | refine ar (by omega) (by omega) ?_ | refine ar8 (by omega) (by omega) ?_ | refine ix (by omega) ?_ | refine IdxVC.mk 0 rfl (by omega) ?_ | refine BytesVC.mk _ rfl ?_ | refine DivVC.mk (by omega) (by omega) ?_ | refine RemVC.mk (by omega) (by omega) ?_ | refine GhVC.mk _ _ _ rfl ?_); set_option smartUnfolding false in conv => whnf))))
      rintro x P2 H' - ⟨gc2, wc2, gs2, rfl, hg2, rfl⟩
      ((set_option smartUnfolding false in conv => whnf) <;> (repeat (first | exact True.intro | ((first | refine ⟨rfl, ?_⟩ | refine ar (by omega) (by omega) ?_ | refine ar8 (by omega) (by omega) ?_ | refine ix (by omega) ?_ | refine IdxVC.mk 0 rfl (by omega) ?_ | refine BytesVC.mk _ rfl ?_ | refine DivVC.mk (by omega) (by omega) ?_ | refine RemVC.mk (by omega) (by omega) ?_ | refine GhVC.mk _ _ _ rfl ?_); set_option smartUnfolding false in conv => whnf))))
      refine ⟨⟨((kk + 1, P2), (mm + 1, zs.drop (k + 1)), (gc2, wc2, gs2)), ⟨k + 1, show kk + 1 = _ by omega, by omega, show mm + 1 = _ by omega, rfl, show gs2.length = _ by omega⟩⟩, show ((zs.length : Int) - (kk + 1)).toNat < ((zs.length : Int) - kk).toNat by omega, ?_⟩
      ((set_option smartUnfolding false in conv => whnf) <;> (repeat (first | exact True.intro | ((first | refine ⟨rfl, ?_⟩ | refine ar (by omega) (by omega) ?_ | refine ar8 (by omega) (by omega) ?_ | refine ix (by omega) ?_ | refine IdxVC.mk 0 rfl (by omega) ?_ | refine BytesVC.mk _ rfl ?_ | refine DivVC.mk (by omega) (by omega) ?_ | refine RemVC.mk (by omega) (by omega) ?_ | refine GhVC.mk _ _ _ rfl ?_); set_option smartUnfolding false in conv => whnf))))
    · have hk2 : k = zs.length := by omega
      ((set_option smartUnfolding false in conv => whnf) <;> (repeat (first | exact True.intro | ((first | refine ⟨rfl, ?_⟩ | refine ar (by omega) (by omega) ?_ | refine ar8 (by omega) (by omega) ?_ | refine ix (by omega) ?_ | refine IdxVC.mk 0 rfl (by omega) ?_ | refine BytesVC.mk _ rfl ?_ | refine DivVC.mk (by omega) (by omega) ?_ | refine RemVC.mk (by omega) (by omega) ?_ | refine GhVC.mk _ _ _ rfl ?_); set_option smartUnfolding false in conv => whnf))))
      obtain ⟨M, hM⟩ : ∃ M : Int, -1 - (ls.length : Int) / 2 = M := ⟨_, rfl⟩
      rw [hM]
      ((set_option smartUnfolding false in conv => whnf) <;> (repeat (first | exact True.intro | ((first | refine ⟨rfl, ?_⟩ | refine ar (by omega) (by omega) ?_ | refine ar8 (by omega) (by omega) ?_ | refine ix (by omega) ?_ | refine IdxVC.mk 0 rfl (by omega) ?_ | refine BytesVC.mk _ rfl ?_ | refine DivVC.mk (by omega) (by omega) ?_ | refine RemVC.mk (by omega) (by omega) ?_ | refine GhVC.mk _ _ _ rfl ?_); set_option smartUnfolding false in conv => whnf))))
      refine .mk (β := { y : Int × List (List Cell) // ∃ k : Nat, y.1 = (k : Int) ∧ k ≤ zs.length ∧ y.2.length = zs.length ∧ (∀ z ∈ y.2, z.length = 2) ∧ y.2.take k = List.replicate k (pe M) }) (fun ⟨(kk, L), _⟩ => ⟨[(6, .raw (.int .i64 kk)), (5, .ptr 5 0), (1, .sl 520 2 0 zs.length zs.length), (0, .ptr 500 0)], P1, shm 520 :: .blk 5 76 [.raw (.int .i64 M), .raw (.slice none 0 0)] :: (bH gc1 wc1 lc mm gs1 ls ++ [.row 520 76 zs.length (lits 2 L)])⟩) (fun b => ((zs.length : Int) - b.1.1).toNat) ⟨(0, zs.map pqEnc), ⟨0, rfl, Nat.zero_le _, hzl, fun z hz => by obtain ⟨y, -, rfl⟩ := List.mem_map.1 hz; rfl, rfl⟩⟩ ?_ ?_
      · ((set_option smartUnfolding false in conv => whnf) <;> (repeat (first | exact True.intro | ((first | refine ⟨rfl, ?_⟩ | refine ar (by omega) (by omega) ?_ | refine ar8 (by omega) (by omega) ?_ | refine ix (by omega) ?_ | refine IdxVC.mk 0 rfl (by omega) ?_ | refine BytesVC.mk _ rfl ?_ | refine DivVC.mk (by omega) (by omega) ?_ | refine RemVC.mk (by omega) (by omega) ?_ | refine GhVC.mk _ _ _ rfl ?_); set_option smartUnfolding false in conv => whnf))))
      · rintro ⟨⟨jj, L⟩, hj'⟩ -
        obtain ⟨j, hjj, hjm, hL, h2, hLt⟩ : ∃ j : Nat, jj = (j : Int) ∧ j ≤ zs.length ∧ L.length = zs.length ∧ (∀ z ∈ L, z.length = 2) ∧ L.take j = List.replicate j (pe M) := hj'
        ((set_option smartUnfolding false in conv => whnf) <;> (repeat (first | exact True.intro | ((first | refine ⟨rfl, ?_⟩ | refine ar (by omega) (by omega) ?_ | refine ar8 (by omega) (by omega) ?_ | refine ix (by omega) ?_ | refine IdxVC.mk 0 rfl (by omega) ?_ | refine BytesVC.mk _ rfl ?_ | refine DivVC.mk (by omega) (by omega) ?_ | refine RemVC.mk (by omega) (by omega) ?_ | refine GhVC.mk _ _ _ rfl ?_); set_option smartUnfolding false in conv => whnf))))
        refine bxd (fun h => ?_) (fun h => ?_)
        · have hlt : j < zs.length := by omega
          obtain ⟨l0, hl0⟩ : ∃ y, L[j]? = some y := ⟨L[j], List.getElem?_eq_getElem (by omega)⟩
          have hl2 := h2 l0 (List.mem_of_getElem? hl0)
          ((set_option smartUnfolding false in conv => whnf) <;> (repeat (first | exact True.intro | ((first | refine ⟨rfl, ?_⟩ | refine ar (by omega) (by omega) ?_ | refine ar8 (by omega) (by omega) ?_ | refine ix (by omega) ?_ | refine IdxVC.mk 0 rfl (by omega) ?_ | refine BytesVC.mk _ rfl ?_ | refine DivVC.mk (by omega) (by omega) ?_ | refine RemVC.mk (by omega) (by omega) ?_ | refine GhVC.mk _ _ _ rfl ?_); set_option smartUnfolding false in conv => whnf))))
          refine IdxVC.mk j hjj hlt ?_
          ((set_option smartUnfolding false in conv => whnf) <;> (repeat (first | exact True.intro | ((first | refine ⟨rfl, ?_⟩ | refine ar (by omega) (by omega) ?_ | refine ar8 (by omega) (by omega) ?_ | refine ix (by omega) ?_ | refine IdxVC.mk 0 rfl (by omega) ?_ | refine BytesVC.mk _ rfl ?_ | refine DivVC.mk (by omega) (by omega) ?_ | refine RemVC.mk (by omega) (by omega) ?_ | refine GhVC.mk _ _ _ rfl ?_); set_option smartUnfolding false in conv => whnf))))
          refine .mk l0 (pe M) (by rw [Nat.zero_add]; exact hl0) (by
            show pe M = wr l0 0 (pe M)
            match l0, hl2 with
            | [a, b], _ => rfl) (by show 0 + 2 ≤ l0.length; omega) ?_
          ((set_option smartUnfolding false in conv => whnf) <;> (repeat (first | exact True.intro | ((first | refine ⟨rfl, ?_⟩ | refine ar (by omega) (by omega) ?_ | refine ar8 (by omega) (by omega) ?_ | refine ix (by omega) ?_ | refine IdxVC.mk 0 rfl (by omega) ?_ | refine BytesVC.mk _ rfl ?_ | refine DivVC.mk (by omega) (by omega) ?_ | refine RemVC.mk (by omega) (by omega) ?_ | refine GhVC.mk _ _ _ rfl ?_); set_option smartUnfolding false in conv => whnf))))
          refine ⟨⟨(jj + 1, L.set (0 + j) (pe M)), ⟨j + 1, show jj + 1 = _ by omega, by omega, by simp [hL], fun z hz => (List.mem_or_eq_of_mem_set hz).elim (h2 z) (fun e => by rw [e]; rfl), by rw [Nat.zero_add, take_set _ _ _ (by omega), hLt, List.replicate_succ']⟩⟩, show ((zs.length : Int) - (jj + 1)).toNat < ((zs.length : Int) - jj).toNat by omega, ?_⟩
          ((set_option smartUnfolding false in conv => whnf) <;> (repeat (first | exact True.intro | ((first | refine ⟨rfl, ?_⟩ | refine ar (by omega) (by omega) ?_ | refine ar8 (by omega) (by omega) ?_ | refine ix (by omega) ?_ | refine IdxVC.mk 0 rfl (by omega) ?_ | refine BytesVC.mk _ rfl ?_ | refine DivVC.mk (by omega) (by omega) ?_ | refine RemVC.mk (by omega) (by omega) ?_ | refine GhVC.mk _ _ _ rfl ?_); set_option smartUnfolding false in conv => whnf))))
        · have hj2 : j = zs.length := by omega
          have hLr : L = List.replicate zs.length (pe M) := by rw [hj2, List.take_of_length_le (by omega)] at hLt; exact hLt
          ((set_option smartUnfolding false in conv => whnf) <;> (repeat (first | exact True.intro | ((first | refine ⟨rfl, ?_⟩ | refine ar (by omega) (by omega) ?_ | refine ar8 (by omega) (by omega) ?_ | refine ix (by omega) ?_ | refine IdxVC.mk 0 rfl (by omega) ?_ | refine BytesVC.mk _ rfl ?_ | refine DivVC.mk (by omega) (by omega) ?_ | refine RemVC.mk (by omega) (by omega) ?_ | refine GhVC.mk _ _ _ rfl ?_); set_option smartUnfolding false in conv => whnf))))
          have hm1 : L.map id = List.replicate zs.length (pe M) := by rw [hLr, List.map_id]
          have hm2 : (L ++ List.replicate 8 (pe M)).map id = List.replicate (zs.length + 8) (pe M) := by rw [hLr, List.map_id, List.replicate_append_replicate]
          refine .mk (by show 0 + 8 ≤ 8; omega) ?_
          ((set_option smartUnfolding false in conv => whnf) <;> (repeat (first | exact True.intro | ((first | refine ⟨rfl, ?_⟩ | refine ar (by omega) (by omega) ?_ | refine ar8 (by omega) (by omega) ?_ | refine ix (by omega) ?_ | refine IdxVC.mk 0 rfl (by omega) ?_ | refine BytesVC.mk _ rfl ?_ | refine DivVC.mk (by omega) (by omega) ?_ | refine RemVC.mk (by omega) (by omega) ?_ | refine GhVC.mk _ _ _ rfl ?_); set_option smartUnfolding false in conv => whnf))))
          refine .mk (List.replicate 8 (pe M)) rfl ?_
          refine .mk rfl (by show zs.length = L.length; omega) rfl ?_
          ((set_option smartUnfolding false in conv => whnf) <;> (repeat (first | exact True.intro | ((first | refine ⟨rfl, ?_⟩ | refine ar (by omega) (by omega) ?_ | refine ar8 (by omega) (by omega) ?_ | refine ix (by omega) ?_ | refine IdxVC.mk 0 rfl (by omega) ?_ | refine BytesVC.mk _ rfl ?_ | refine DivVC.mk (by omega) (by omega) ?_ | refine RemVC.mk (by omega) (by omega) ?_ | refine GhVC.mk _ _ _ rfl ?_); set_option smartUnfolding false in conv => whnf))))
          refine ap (by show (L.length + 8) * 32 ≤ _; omega) (by show L.length + 8 ≤ _; omega) (fun cap2 g1 g2 => ?_)
          intro P2 a a2 hle
          ((set_option smartUnfolding false in conv => whnf) <;> (repeat (first | exact True.intro | ((first | refine ⟨rfl, ?_⟩ | refine ar (by omega) (by omega) ?_ | refine ar8 (by omega) (by omega) ?_ | refine ix (by omega) ?_ | refine IdxVC.mk 0 rfl (by omega) ?_ | refine BytesVC.mk _ rfl ?_ | refine DivVC.mk (by omega) (by omega) ?_ | refine RemVC.mk (by omega) (by omega) ?_ | refine GhVC.mk _ _ _ rfl ?_); set_option smartUnfolding false in conv => whnf))))
          repeat (refine ⟨by (show zs.length = L.length; omega), ?_⟩; ((set_option smartUnfolding false in conv => whnf) <;> (repeat (first | exact True.intro | ((first | refine ⟨rfl, ?_⟩ | refine ar (by omega) (by omega) ?_ | refine ar8 (by omega) (by omega) ?_ | refine ix (by omega) ?_ | refine IdxVC.mk 0 rfl (by omega) ?_ | refine BytesVC.mk _ rfl ?_ | refine DivVC.mk (by omega) (by omega) ?_ | refine RemVC.mk (by omega) (by omega) ?_ | refine GhVC.mk _ _ _ rfl ?_); set_option smartUnfolding false in conv => whnf)))))
          refine .mk (by show 0 + 2 ≤ 2; omega) ?_
          ((set_option smartUnfolding false in conv => whnf) <;> (repeat (first | exact True.intro | ((first | refine ⟨rfl, ?_⟩ | refine ar (by omega) (by omega) ?_ | refine ar8 (by omega) (by omega) ?_ | refine ix (by omega) ?_ | refine IdxVC.mk 0 rfl (by omega) ?_ | refine BytesVC.mk _ rfl ?_ | refine DivVC.mk (by omega) (by omega) ?_ | refine RemVC.mk (by omega) (by omega) ?_ | refine GhVC.mk _ _ _ rfl ?_); set_option smartUnfolding false in conv => whnf))))
          refine .mk [(a, zs.length, M, zs.length), (a2, cap2, M, zs.length + 8)] (by
            show [[Cell.rs a zs.length 2 (List.replicate zs.length (pe M))], [Cell.rs a2 cap2 2 (List.replicate (zs.length + 8) (pe M))]] = [[Cell.rs a zs.length 2 (L.map id)], [Cell.rs a2 cap2 2 ((L ++ List.replicate 8 (pe M)).map id)]]
            rw [hm1, hm2]) ?_
          refine .mk rfl rfl rfl ?_
          ((set_option smartUnfolding false in conv => whnf) <;> (repeat (first | exact True.intro | ((first | refine ⟨rfl, ?_⟩ | refine ar (by omega) (by omega) ?_ | refine ar8 (by omega) (by omega) ?_ | refine ix (by omega) ?_ | refine IdxVC.mk 0 rfl (by omega) ?_ | refine BytesVC.mk _ rfl ?_ | refine DivVC.mk (by omega) (by omega) ?_ | refine RemVC.mk (by omega) (by omega) ?_ | refine GhVC.mk _ _ _ rfl ?_); set_option smartUnfolding false in conv => whnf))))
          refine ap (by show (ls.length + 2) * 24 ≤ _; omega) (by show ls.length + 2 ≤ _; omega) (fun lc2 g3 g4 => ?_)
          ((set_option smartUnfolding false in conv => whnf) <;> (repeat (first | exact True.intro | ((first | refine ⟨rfl, ?_⟩ | refine ar (by omega) (by omega) ?_ | refine ar8 (by omega) (by omega) ?_ | refine ix (by omega) ?_ | refine IdxVC.mk 0 rfl (by omega) ?_ | refine BytesVC.mk _ rfl ?_ | refine DivVC.mk (by omega) (by omega) ?_ | refine RemVC.mk (by omega) (by omega) ?_ | refine GhVC.mk _ _ _ rfl ?_); set_option smartUnfolding false in conv => whnf))))
          have hMn : M = -1 - ((ls.length / 2 : Nat) : Int) := by omega
          have hfin : ∃ (gc' wc' lc' : Nat) (gs' : List Gt) (ls' : List Lt), SV.tup [] = SV.tup [] ∧ gs'.length = gs.length + 2 * zs.length ∧ ls'.length = ls.length + 2 ∧ LsOk ls' ∧ bH gc1 wc1 lc2 mm gs1 (ls ++ [(a, zs.length, M, zs.length), (a2, cap2, M, zs.length + 8)]) = bH gc' wc' lc' (m + zs.length) gs' ls' :=
            ⟨gc1, wc1, lc2, gs1, ls ++ [(a, zs.length, M, zs.length), (a2, cap2, M, zs.length + 8)], rfl, by omega, by simp, by rw [hMn]; exact hls.snoc a a2 _ _ _ hz, by rw [hmm, hk2]⟩
          refine ⟨[(500, 500), (501, 501), (502, 502), (56, 503), (55, 601), (53, 602), (520, 603), (5, 604)], rfl, rfl, ?_⟩
          ((set_option smartUnfolding false in conv => whnf) <;> (repeat (first | exact True.intro | ((first | refine ⟨rfl, ?_⟩ | refine ar (by omega) (by omega) ?_ | refine ar8 (by omega) (by omega) ?_ | refine ix (by omega) ?_ | refine IdxVC.mk 0 rfl (by omega) ?_ | refine BytesVC.mk _ rfl ?_ | refine DivVC.mk (by omega) (by omega) ?_ | refine RemVC.mk (by omega) (by omega) ?_ | refine GhVC.mk _ _ _ rfl ?_); set_option smartUnfolding false in conv => whnf))))
          refine ⟨bH gc1 wc1 lc2 mm gs1 (ls ++ [(a, zs.length, M, zs.length), (a2, cap2, M, zs.length + 8)]), ?_⟩
          ((set_option smartUnfolding false in conv => whnf) <;> (repeat (first | exact True.intro | ((first | refine ⟨rfl, ?_⟩ | refine ar (by omega) (by omega) ?_ | refine ar8 (by omega) (by omega) ?_ | refine ix (by omega) ?_ | refine IdxVC.mk 0 rfl (by omega) ?_ | refine BytesVC.mk _ rfl ?_ | refine DivVC.mk (by omega) (by omega) ?_ | refine RemVC.mk (by omega) (by omega) ?_ | refine GhVC.mk _ _ _ rfl ?_); set_option smartUnfolding false in conv => whnf))))
          exact hfin
end Go.Proofs.Ytpdppacafkdgdaa
