/- A page's layout, in plain lists: what is written is read; what is read is what writes it again. No program in sight. -/
import Derived.Test.YtipmfbpomhcfcaaDoorPg6
set_option linter.unusedVariables false
set_option linter.unusedSimpArgs false
namespace Go.Le
open Go

theorem num_be2 (n : Nat) (h : n < 65536) : num (be2 n) = n := by
  simp [num, be2]; omega
theorem num_be4 (n : Nat) (h : n < 4294967296) : num (be4 n) = n := by
  simp [num, be4, be2]; omega
theorem be2_num (l : List UInt8) (h : l.length = 2) : be2 (num l) = l := by
  obtain ⟨a, b, rfl⟩ : ∃ a b, l = [a, b] := by
    match l, h with
    | [a, b], _ => exact ⟨a, b, rfl⟩
  have ha := a.toNat_lt
  have hb := b.toNat_lt
  simp only [num, be2, List.foldl_cons, List.foldl_nil, List.cons.injEq, and_true]
  constructor <;> apply UInt8.toNat_inj.1 <;> simp <;> omega
theorem be4_num (l : List UInt8) (h : l.length = 4) : be4 (num l) = l := by
  obtain ⟨a, b, c, d, rfl⟩ : ∃ a b c d, l = [a, b, c, d] := by
    match l, h with
    | [a, b, c, d], _ => exact ⟨a, b, c, d, rfl⟩
  have ha := a.toNat_lt
  have hb := b.toNat_lt
  have hc := c.toNat_lt
  have hd := d.toNat_lt
  simp only [num, be4, be2, List.foldl_cons, List.foldl_nil, List.cons_append, List.nil_append, List.cons.injEq, and_true]
  refine ⟨?_, ?_, ?_, ?_⟩ <;> apply UInt8.toNat_inj.1 <;> simp <;> omega
theorem zeros_replicate (n : Nat) : zeros (List.replicate n 0) = true := by simp [zeros]
theorem zeros_eq {l : List UInt8} (h : zeros l = true) : l = List.replicate l.length 0 := by
  rw [List.eq_replicate_iff]
  refine ⟨rfl, fun x hx => ?_⟩
  have := List.all_eq_true.1 h x hx
  simpa using this

/-- a page's parts -/
theorem made_at (kind : UInt8) (n count : Nat) (c : List UInt8) : ∃ s, s = be4 (crc (bare kind n count c)).toNat ∧ pgMade kind n count c =
    0xd6 :: kind :: UInt8.ofNat (n / 256) :: UInt8.ofNat n :: UInt8.ofNat (count / 256) :: UInt8.ofNat count :: UInt8.ofNat (c.length / 256) :: UInt8.ofNat c.length :: 0 :: 0 :: 0 :: 0 :: (s ++ (c ++ List.replicate (1008 - c.length) 0)) := by
  refine ⟨_, rfl, ?_⟩
  simp [pgMade, be2, List.replicate_succ]
theorem bare_at (kind : UInt8) (n count : Nat) (c : List UInt8) : bare kind n count c =
    0xd6 :: kind :: UInt8.ofNat (n / 256) :: UInt8.ofNat n :: UInt8.ofNat (count / 256) :: UInt8.ofNat count :: UInt8.ofNat (c.length / 256) :: UInt8.ofNat c.length :: 0 :: 0 :: 0 :: 0 :: 0 :: 0 :: 0 :: 0 :: (c ++ List.replicate (1008 - c.length) 0) := by
  simp [bare, be2, List.replicate_succ]
theorem be4_length (n : Nat) : (be4 n).length = 4 := rfl
theorem sumIn_made (kind : UInt8) (n count : Nat) (c : List UInt8) : sumIn (pgMade kind n count c) = bare kind n count c := by
  obtain ⟨s, hs, h⟩ := made_at kind n count c
  have hl : s.length = 4 := by rw [hs]; rfl
  rw [h, bare_at]
  simp [sumIn, hl]
theorem made_sum (kind : UInt8) (n count : Nat) (c : List UInt8) : pgSum (pgMade kind n count c) = ((pgMade kind n count c).drop 12).take 4 := by
  rw [pgSum, sumIn_made]
  obtain ⟨s, hs, h⟩ := made_at kind n count c
  have hl : s.length = 4 := by rw [hs]; rfl
  rw [h, ← hs]
  simp [hl]
theorem made_whole (kind : UInt8) (n count : Nat) (c : List UInt8) (hc : c.length ≤ 1008) (k : UInt8) : whErr k (pgMade kind n count c) = if kind = k then 0 else 103 := by
  have hl := pgMade_length kind n count c hc
  have h0 : (pgMade kind n count c).getD 0 0 = 0xd6 := by
    obtain ⟨s, _, h⟩ := made_at kind n count c; rw [h]; rfl
  have h1 : (pgMade kind n count c).getD 1 0 = kind := by
    obtain ⟨s, _, h⟩ := made_at kind n count c; rw [h]; rfl
  rw [whErr, if_neg (by omega), if_neg (by rw [h0]; simp), h1]
  by_cases hk : kind = k
  · rw [if_neg (by simpa using hk), if_neg (by rw [made_sum]; simp), if_pos hk]
  · rw [if_pos hk, if_neg hk]
theorem made_sub (kind : UInt8) (n count : Nat) (c : List UInt8) :
    sub (pgMade kind n count c) 2 4 = be2 n ∧ sub (pgMade kind n count c) 4 6 = be2 count ∧ sub (pgMade kind n count c) 6 8 = be2 c.length ∧ zeros (sub (pgMade kind n count c) 8 12) = true ∧
      (pgMade kind n count c).drop 16 = c ++ List.replicate (1008 - c.length) 0 := by
  obtain ⟨s, hs, h⟩ := made_at kind n count c
  have hl : s.length = 4 := by rw [hs]; rfl
  rw [h]
  refine ⟨rfl, rfl, rfl, rfl, ?_⟩
  simp [hl]

/-- what is written into a page is read out of it -/
theorem made_open (n count : Nat) (c : List UInt8) (hn : 1 ≤ n ∧ n < 250) (hk : 1 ≤ count ∧ count ≤ 65535) (hc : 1 ≤ c.length ∧ c.length ≤ 1008) (asked : Int) :
    opErr asked (pgMade 2 n count c) = if (n : Int) = asked then 0 else 102 := by
  obtain ⟨h1, h2, h3, h4, h5⟩ := made_sub 2 n count c
  have e1 : num (be2 n) = n := num_be2 n (by omega)
  have e2 : num (be2 count) = count := num_be2 count (by omega)
  have e3 : num (be2 c.length) = c.length := num_be2 _ (by omega)
  have hd : (pgMade 2 n count c).drop (16 + c.length) = List.replicate (1008 - c.length) 0 := by
    rw [← List.drop_drop, h5]; simp
  rw [opErr, made_whole 2 n count c hc.2, if_pos rfl, if_neg (by simp), opWhy, h1, h2, h3, h4, e1, e2, e3, hd, zeros_replicate, opWhyN]
  by_cases ha : (n : Int) = asked
  · rw [if_neg (by simpa using ha), if_neg (by omega), if_neg (by simp), if_neg (by omega), if_neg (by omega), if_neg (by simp), if_pos ha]
  · rw [if_pos ha, if_neg ha]
theorem made_count (n count : Nat) (c : List UInt8) (hn : 1 ≤ n ∧ n < 250) (hk : 1 ≤ count ∧ count ≤ 65535) (hc : 1 ≤ c.length ∧ c.length ≤ 1008) : opCount (n : Int) (pgMade 2 n count c) = count := by
  rw [opCount, made_open n count c hn hk hc, if_pos rfl, if_pos rfl, (made_sub 2 n count c).2.1, num_be2 _ (by omega)]
theorem made_cont (n count : Nat) (c : List UInt8) (hn : 1 ≤ n ∧ n < 250) (hk : 1 ≤ count ∧ count ≤ 65535) (hc : 1 ≤ c.length ∧ c.length ≤ 1008) : opCont (n : Int) (pgMade 2 n count c) = c := by
  rw [opCont, made_open n count c hn hk hc, if_pos rfl, if_pos rfl, (made_sub 2 n count c).2.2.1, num_be2 _ (by omega), (made_sub 2 n count c).2.2.2.2]
  simp
theorem made_noHead (n count : Nat) (c : List UInt8) (hc : c.length ≤ 1008) : ohErr (pgMade 2 n count c) = 103 := by
  rw [ohErr, made_whole 2 n count c hc, if_pos (by decide), if_neg (by decide)]
theorem head_noPage (asked : Int) (n count : Nat) (c : List UInt8) (hc : c.length ≤ 1008) : opErr asked (pgMade 1 n count c) = 103 := by
  rw [opErr, made_whole 1 n count c hc, if_pos (by decide), if_neg (by decide)]
theorem head_open (p u r : Nat) (h : mayB p u r = true) : ohErr (pgMade 1 0 0 (hdBytes p u r)) = 0 ∧ num (sub (pgMade 1 0 0 (hdBytes p u r)) 16 18) = p ∧ num (sub (pgMade 1 0 0 (hdBytes p u r)) 18 20) = u ∧ num (sub (pgMade 1 0 0 (hdBytes p u r)) 20 24) = r := by
  have hm : 1 ≤ (p : Int) ∧ (p : Int) ≤ 250 ∧ 0 ≤ (u : Int) ∧ (u : Int) ≤ p - 1 ∧ 0 ≤ (r : Int) ∧ (r : Int) ≤ 65535 * u := by simpa [mayB] using h
  have hl : (hdBytes p u r).length = 8 := rfl
  obtain ⟨h1, h2, h3, h4, h5⟩ := made_sub 1 0 0 (hdBytes p u r)
  have s1 : ∀ i j, sub (pgMade 1 0 0 (hdBytes p u r)) (16 + i) (16 + j) = sub (hdBytes p u r ++ List.replicate 1000 0) i j := by
    intro i j
    rw [show (hdBytes p u r ++ List.replicate 1000 0) = (pgMade 1 0 0 (hdBytes p u r)).drop 16 from by rw [h5, hl]]
    simp only [sub, List.drop_take, List.drop_drop]
    congr 1
    omega
  have a1 : sub (pgMade 1 0 0 (hdBytes p u r)) 16 18 = be2 p := by rw [s1 0 2]; rfl
  have a2 : sub (pgMade 1 0 0 (hdBytes p u r)) 18 20 = be2 u := by rw [s1 2 4]; rfl
  have a3 : sub (pgMade 1 0 0 (hdBytes p u r)) 20 24 = be4 r := by rw [s1 4 8]; rfl
  have n1 : num (be2 p) = p := num_be2 p (by omega)
  have n2 : num (be2 u) = u := num_be2 u (by omega)
  have n3 : num (be4 r) = r := num_be4 r (by omega)
  refine ⟨?_, by rw [a1, n1], by rw [a2, n2], by rw [a3, n3]⟩
  have z2 : zeros (sub (pgMade 1 0 0 (hdBytes p u r)) 2 6) = true := by
    obtain ⟨s, _, hh⟩ := made_at 1 0 0 (hdBytes p u r); rw [hh]; rfl
  have z24 : zeros ((pgMade 1 0 0 (hdBytes p u r)).drop 24) = true := by
    rw [show 24 = 16 + 8 from rfl, ← List.drop_drop, h5, hl]
    rw [List.drop_append, hl, List.drop_of_length_le (by omega), List.nil_append, List.drop_replicate]
    exact zeros_replicate _
  rw [ohErr, made_whole 1 0 0 _ (by omega), if_pos rfl, if_neg (by simp), z2, h4, z24, h3, a1, a2, a3, n1, n2, n3, hl, ohWhy, if_neg (by simp), if_neg (by decide), if_pos h]

theorem sub_sub (l : List UInt8) (i j k : Nat) (h1 : i ≤ j) (h2 : j ≤ k) : sub l i j ++ sub l j k = sub l i k := by
  simp only [sub, List.drop_take]
  rw [show k - i = (j - i) + (k - j) from by omega, List.take_add, List.drop_drop, show i + (j - i) = j from by omega]
theorem sub_end (l : List UInt8) (i k : Nat) (h : i ≤ k) : sub l i k ++ l.drop k = l.drop i := by
  simp only [sub, List.drop_take]
  have := List.take_append_drop (k - i) (l.drop i)
  rw [List.drop_drop, show i + (k - i) = k from by omega] at this
  exact this
theorem sub_length (l : List UInt8) (i j : Nat) (h2 : j ≤ l.length) : (sub l i j).length = j - i := by
  simp [sub]; omega
theorem whole_parts {kind : UInt8} {l : List UInt8} (h : whErr kind l = 0) : l.length = 1024 ∧ sub l 0 2 = [0xd6, kind] ∧ pgSum l = sub l 12 16 := by
  have hl := whErr_len h
  rw [whErr, if_neg (by omega)] at h
  by_cases h0 : l.getD 0 0 = 0xd6
  case neg => rw [if_pos h0] at h; omega
  by_cases h1 : l.getD 1 0 = kind
  case neg => rw [if_neg (by simpa using h0), if_pos h1] at h; omega
  by_cases h2 : pgSum l = (l.drop 12).take 4
  case neg => rw [if_neg (by simpa using h0), if_neg (by simpa using h1), if_pos h2] at h; omega
  refine ⟨hl, ?_, ?_⟩
  · match l, hl with
    | a :: b :: r, _ =>
      simp only [List.getD_cons_zero, List.getD_cons_succ] at h0 h1
      subst h0; subst h1
      rfl
  · rw [h2, sub, List.drop_take]
/-- a whole page, its parts as its fields say, is what is made of these parts -/
theorem made_again {kind : UInt8} {l : List UInt8} (h : whErr kind l = 0) (hz : zeros (sub l 8 12) = true) (hL : num (sub l 6 8) ≤ 1008) (ht : zeros (l.drop (16 + num (sub l 6 8))) = true) :
    pgMade kind (num (sub l 2 4)) (num (sub l 4 6)) ((l.drop 16).take (num (sub l 6 8))) = l := by
  obtain ⟨hl, h0, hs⟩ := whole_parts h
  generalize hLL : num (sub l 6 8) = L at *
  have e2 := be2_num (sub l 2 4) (by rw [sub_length _ _ _ (by omega)])
  have e4 := be2_num (sub l 4 6) (by rw [sub_length _ _ _ (by omega)])
  have e6 := be2_num (sub l 6 8) (by rw [sub_length _ _ _ (by omega)])
  have e8 : sub l 8 12 = List.replicate 4 0 := by
    have := zeros_eq hz; rwa [sub_length _ _ _ (by omega)] at this
  have hcl : ((l.drop 16).take L).length = L := by simp; omega
  have hc : (l.drop 16).take L = sub l 16 (16 + L) := (sub_cont l L).symm
  have et : l.drop (16 + L) = List.replicate (1008 - L) 0 := by
    have := zeros_eq ht
    rw [this]; congr 1; simp; omega
  have hb : bare kind (num (sub l 2 4)) (num (sub l 4 6)) ((l.drop 16).take L) = sumIn l := by
    rw [bare, hcl, e2, e4, ← hLL, e6, hLL, hc, ← et, sub_end l 16 (16 + L) (by omega), ← h0, ← e8]
    rw [sumIn]
    have : l.take 12 = sub l 0 2 ++ (sub l 2 4 ++ (sub l 4 6 ++ (sub l 6 8 ++ sub l 8 12))) := by
      rw [sub_sub _ _ _ _ (by omega) (by omega), sub_sub _ _ _ _ (by omega) (by omega), sub_sub _ _ _ _ (by omega) (by omega), sub_sub _ _ _ _ (by omega) (by omega)]
      simp [sub]
    rw [this, e8]
    simp
  have hp := hs
  rw [pgSum, ← hb] at hp
  rw [pgMade, hp, hcl, e2, e4, ← hLL, e6, hLL, hc, ← et, sub_end l 16 (16 + L) (by omega), ← h0, ← e8]
  rw [sub_end _ _ _ (by omega), sub_end _ _ _ (by omega), sub_end _ _ _ (by omega), sub_end _ _ _ (by omega), sub_end _ _ _ (by omega), sub_end _ _ _ (by omega), List.drop_zero]
/-- what is taken is what writes again what stands in it -/
theorem open_again {asked : Int} {l : List UInt8} (h : opErr asked l = 0) : mkErr asked (opCount asked l) (opCont asked l).length = 0 ∧ pgMade 2 asked.toNat (opCount asked l) (opCont asked l) = l ∧ ohErr l = 103 := by
  have hw : whErr 2 l = 0 := by
    by_cases hw : whErr 2 l = 0
    · exact hw
    · rw [opErr, if_pos hw] at h; exact absurd h hw
  obtain ⟨hl, h0, hs⟩ := whole_parts hw
  have hcnt : opCount asked l = num (sub l 4 6) := by rw [opCount, if_pos h]
  have hcont : opCont asked l = (l.drop 16).take (num (sub l 6 8)) := by rw [opCont, if_pos h]
  rw [opErr, if_neg (by simpa using hw), opWhy, opWhyN] at h
  by_cases t1 : (num (sub l 2 4) : Int) = asked
  case neg => rw [if_pos t1] at h; omega
  rw [if_neg (by simpa using t1)] at h
  by_cases t2 : num (sub l 2 4) < 1 ∨ 250 ≤ num (sub l 2 4) ∨ num (sub l 4 6) = 0
  case pos => rw [if_pos t2] at h; omega
  rw [if_neg t2] at h
  by_cases t3 : zeros (sub l 8 12) = false
  case pos => rw [if_pos t3] at h; omega
  rw [if_neg t3] at h
  by_cases t4 : num (sub l 6 8) = 0
  case pos => rw [if_pos t4] at h; omega
  rw [if_neg t4] at h
  by_cases t5 : 1008 < num (sub l 6 8)
  case pos => rw [if_pos t5] at h; omega
  rw [if_neg t5] at h
  by_cases t6 : zeros (l.drop (16 + num (sub l 6 8))) = false
  case pos => rw [if_pos t6] at h; omega
  have hm := made_again hw (by simpa using t3) (by omega) (by simpa using t6)
  have hlen : ((l.drop 16).take (num (sub l 6 8))).length = num (sub l 6 8) := by simp; omega
  have hn4 : num (sub l 4 6) < 65536 := num_sub_lt l 4
  subst t1
  refine ⟨?_, ?_, ?_⟩
  · rw [hcnt, hcont, hlen, mkErr, if_neg (by omega), if_neg t4, if_neg t5]
  · rw [hcnt, hcont, Int.toNat_natCast]; exact hm
  · rw [← hm]; exact made_noHead _ _ _ (by omega)
theorem head_again {l : List UInt8} (h : ohErr l = 0) : mayB (num (sub l 16 18)) (num (sub l 18 20)) (num (sub l 20 24)) = true ∧ pgMade 1 0 0 (hdBytes (num (sub l 16 18)) (num (sub l 18 20)) (num (sub l 20 24))) = l := by
  have hw : whErr 1 l = 0 := by
    by_cases hw : whErr 1 l = 0
    · exact hw
    · rw [ohErr, if_pos hw] at h; exact absurd h hw
  obtain ⟨hl, h0, hs⟩ := whole_parts hw
  rw [ohErr, if_neg (by simpa using hw), ohWhy] at h
  by_cases t1 : zeros (sub l 2 6) = false ∨ zeros (sub l 8 12) = false ∨ zeros (l.drop 24) = false
  case pos => rw [if_pos t1] at h; omega
  rw [if_neg t1] at h
  by_cases t2 : num (sub l 6 8) = 8
  case neg => rw [if_pos t2] at h; omega
  rw [if_neg (by simpa using t2)] at h
  by_cases t3 : mayB (num (sub l 16 18)) (num (sub l 18 20)) (num (sub l 20 24)) = true
  case neg => rw [if_neg t3] at h; omega
  refine ⟨t3, ?_⟩
  have z1 : zeros (sub l 2 6) = true := by simpa using fun hh => t1 (.inl hh)
  have z2 : zeros (sub l 8 12) = true := by simpa using fun hh => t1 (.inr (.inl hh))
  have z3 : zeros (l.drop 24) = true := by simpa using fun hh => t1 (.inr (.inr hh))
  have hm := made_again hw z2 (by omega) (by rw [t2]; exact z3)
  have z26 : sub l 2 4 ++ sub l 4 6 = [0, 0, 0, 0] := by
    rw [sub_sub _ _ _ _ (by omega) (by omega)]
    have := zeros_eq z1
    rw [sub_length _ _ _ (by omega)] at this
    rw [this]; rfl
  have l2 : (sub l 2 4).length = 2 := by rw [sub_length _ _ _ (by omega)]
  have l4 : (sub l 4 6).length = 2 := by rw [sub_length _ _ _ (by omega)]
  have y2 : sub l 2 4 = [0, 0] := by
    have := congrArg (List.take 2) z26
    rwa [List.take_left' l2] at this
  have y4 : sub l 4 6 = [0, 0] := by
    have := congrArg (List.drop 2) z26
    rwa [List.drop_left' l2] at this
  have hh : hdBytes (num (sub l 16 18)) (num (sub l 18 20)) (num (sub l 20 24)) = (l.drop 16).take (num (sub l 6 8)) := by
    rw [hdBytes, be2_num _ (by rw [sub_length _ _ _ (by omega)]), be2_num _ (by rw [sub_length _ _ _ (by omega)]), be4_num _ (by rw [sub_length _ _ _ (by omega)]), List.append_assoc,
      sub_sub _ _ _ _ (by omega) (by omega), sub_sub _ _ _ _ (by omega) (by omega), t2]
    exact sub_cont l 8
  rw [hh]
  rw [y2, y4] at hm
  exact hm
theorem blank_mark (asked : Int) : opErr asked (List.replicate 1024 0) = 100 := by
  have h : whErr 2 (List.replicate 1024 0) = 100 := by
    rw [whErr, if_neg (by rw [List.length_replicate]; omega), if_pos (by rw [show (List.replicate 1024 (0 : UInt8)).getD 0 0 = 0 from by rw [List.getD, List.getElem?_replicate]; rfl]; decide)]
  rw [opErr, h, if_pos (by omega)]
end Go.Le
