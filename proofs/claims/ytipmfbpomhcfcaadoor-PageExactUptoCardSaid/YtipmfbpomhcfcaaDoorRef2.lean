/- The walks of the document's pages: whole, Make, sealed, begun, fits, Head. -/
import Derived.Test.YtipmfbpomhcfcaaDoorRef1
namespace Go.Le
open Go
theorem splice_snoc {α : Type} (L cs : List α) (x : α) (p : Nat) (h : p + cs.length < L.length) : (splice L p cs).set (p + cs.length) x = splice L p (cs ++ [x]) := by
  unfold splice
  have hp : (L.take p).length = p := by rw [List.length_take]; omega
  rw [List.set_append, if_neg (by omega), hp, List.set_append, if_neg (by omega), show p + cs.length - p - cs.length = 0 from by omega]
  rw [List.drop_eq_getElem_cons (show p + cs.length < L.length by omega)]
  simp [Nat.add_assoc]
/-- is the checksum the page's? -/
def sealedB (l : List UInt8) : Bool := (num (sub l 12 16) : Int) == ((crc (sumIn l)).toNat : Int)
theorem sealedB_iff {l : List UInt8} (hl : l.length = 1024) : sealedB l = true ↔ pgSum l = (l.drop 12).take 4 := by
  have e : (l.drop 12).take 4 = sub l 12 16 := by rw [sub, List.drop_take]
  rw [e, sealedB, beq_iff_eq, pgSum]
  constructor
  · intro h
    have h' : num (sub l 12 16) = (crc (sumIn l)).toNat := by omega
    rw [← h', be4_num _ (by rw [sub_length _ _ _ (by omega)])]
  · intro h
    rw [← h, num_be4 _ (crc (sumIn l)).isLt]
theorem splice_sumIn (l : List UInt8) : splice l 12 (be4 0) = sumIn l := rfl
end Go.Le
namespace Go.Proofs.YtipmfbpomhcfcaaDoor
open Go Go.RowKit Go.Le

set_option maxHeartbeats 1000000 in
theorem refWhole_any (kv : Int) (kind : UInt8) (hkv : kv = (kind.toNat : Int)) (n count : Int) (hn0 : 0 ≤ n) (hn1 : n ≤ 65535) (hc0 : 0 ≤ count) (hc1 : count ≤ 65535) (a : Option Addr) (m c : Nat) (l : List UInt8) (w : World) (_ht : True) (h : Sl w a m c (byts l)) (hm : m ≤ 1008) :
    Calls Tryd.prog 33 #[.int .i64 kv, .int .i64 n, .int .i64 count, .slice a m c] w fun e w' => e = .returned (.slice (some ⟨w.heap.size, 0, none⟩) 1024 1024) ∧ Blk w' w.heap.size 5 (byts (pgMade kind n.toNat count.toNat l)) ∧ Fr w.heap.size [] w w' ∧ w.heap.size < w'.heap.size := by
  obtain ⟨Z, hZ⟩ : ∃ Z, Z = (List.replicate 1024 (Value.int .u8 0)).toArray := ⟨_, rfl⟩
  have hmk : ∀ W : World, (Instr.makeSlice 22 (.int .i64 1024) (.int .i64 1024)).run Tryd.prog W = .ok (.slice (some ⟨W.heap.size, 0, none⟩) 1024 1024) (W.alloc (.cells Z 5)) :=
    fun W => by rw [hZ]; exact run_make_bytes (P := Tryd.prog) 22 5 Tryd.underlying22 infoU8 .i64 .i64 1024 (by omega) (by omega) W
  have hz0 : Z[0]? = some (.int .u8 0) := by rw [hZ, List.getElem?_toArray, List.getElem?_replicate, if_pos (by omega)]
  have hz1 : Z[1]? = some (.int .u8 0) := by rw [hZ, List.getElem?_toArray, List.getElem?_replicate, if_pos (by omega)]
  have hhead : Hid ((Z.setIfInBounds 0 (.int .u8 214)).setIfInBounds 1 (.int .u8 kv) = (byts ([0xd6, kind] ++ List.replicate 1022 0)).toArray) := by
    show _ = _
    rw [hZ, hkv]; exact made_head kind
  have hk8 := kind.toNat_lt
  have hkv0 : 0 ≤ kv := by omega
  have hkv1 : kv < 256 := by omega
  clear hZ hkv
  have hle := h.le
  have hcap := h.cap
  have hlen := h.len
  rw [byts_length] at hlen
  have HL := hid hlen
  clear hlen
  go_enter Tryd.func33, Tryd.ntmps33
  go_wp2_with fail
  obtain ⟨w1, hw1⟩ : ∃ w1, w1 = w.alloc (.cells ((Z.setIfInBounds 0 (.int .u8 214)).setIfInBounds 1 (.int .u8 kv)) 5) := ⟨_, rfl⟩
  rw [← hw1]
  have hb1 : Blk w1 w.heap.size 5 (byts ([0xd6, kind] ++ List.replicate 1022 0) ++ []) := by
    rw [hw1, hhead.out, List.append_nil]; exact Blk.new' _ _ rfl
  have hf1 : Fr w.heap.size [] w w1 := by rw [hw1]; exact (by repeat (first | exact Fr.refl _ _ _ | assumption | apply Fr.drew | (refine Fr.drewN ?_ _) | (refine Fr.alloc ?_ (by first | omega | (simp; done) | (simp; omega)) _) | (refine Fr.setCell ?_ (by first | (left; simp; done) | (right; simp; done) | (right; simp; omega)) _)))
  clear hw1 hz0 hz1 hmk hhead
  obtain ⟨cur1, hcur1⟩ : ∃ x, x = ([0xd6, kind] ++ List.replicate 1022 0 : List UInt8) := ⟨_, rfl⟩
  rw [← hcur1] at hb1
  have HC1 := hid hcur1
  have hl1 : cur1.length = 1024 := by rw [hcur1, List.length_append, List.length_replicate]; rfl
  clear hcur1
  refine (put_any _ _ _ cur1 [] _ _ _ _ hb1 (by omega) (by omega) (by omega) (by omega) (by omega) (by omega) (by omega)).mono ?_
  rintro e w2 ⟨rfl, hb2', hf2', hs2'⟩
  obtain ⟨cur2, hcur⟩ : ∃ x, x = splice cur1 2 (be2 n.toNat) := ⟨_, rfl⟩
  have hb2 : Blk w2 w.heap.size 5 (byts cur2 ++ []) := by
    simp only [Int.reduceToNat, lowB_two] at hb2'
    rw [← hcur] at hb2'
    exact hb2'
  have hl2 : cur2.length = 1024 := by rw [hcur, length_splice _ _ _ (by rw [hl1]; exact (by decide : 2 + 2 ≤ 1024))]; exact hl1
  have HC2 := hid hcur
  have hf2 : Fr w.heap.size [] w w2 := Fr.call' (k := hf2') (h := hf1) (hS := by simp)
  clear hcur hb2' hf2' hs2' hb1 hf1
  dsimp only
  go_wp2_with fail
  refine (put_any _ _ _ cur2 [] _ _ _ _ hb2 (by omega) (by omega) (by omega) (by omega) (by omega) (by omega) (by omega)).mono ?_
  rintro e w3 ⟨rfl, hb3', hf3', hs3'⟩
  obtain ⟨cur3, hcur⟩ : ∃ x, x = splice cur2 4 (be2 count.toNat) := ⟨_, rfl⟩
  have hb3 : Blk w3 w.heap.size 5 (byts cur3 ++ []) := by
    simp only [Int.reduceToNat, lowB_two] at hb3'
    rw [← hcur] at hb3'
    exact hb3'
  have hl3 : cur3.length = 1024 := by rw [hcur, length_splice _ _ _ (by rw [hl2]; exact (by decide : 4 + 2 ≤ 1024))]; exact hl2
  have HC3 := hid hcur
  have hf3 : Fr w.heap.size [] w w3 := Fr.call' (k := hf3') (h := hf2) (hS := by simp)
  clear hcur hb3' hf3' hs3' hb2 hf2
  dsimp only
  go_wp2_with fail
  refine (put_any _ _ _ cur3 [] _ _ _ _ hb3 (by omega) (by omega) (by omega) (by omega) (by omega) (by omega) (by omega)).mono ?_
  rintro e w4 ⟨rfl, hb4', hf4', hs4'⟩
  obtain ⟨cur4, hcur⟩ : ∃ x, x = splice cur3 6 (be2 (m : Int).toNat) := ⟨_, rfl⟩
  have hb4 : Blk w4 w.heap.size 5 (byts cur4 ++ []) := by
    simp only [Int.reduceToNat, lowB_two] at hb4'
    rw [← hcur] at hb4'
    exact hb4'
  have hl4 : cur4.length = 1024 := by rw [hcur, length_splice _ _ _ (by rw [hl3]; exact (by decide : 6 + 2 ≤ 1024))]; exact hl3
  have HC4 := hid hcur
  have hf4 : Fr w.heap.size [] w w4 := Fr.call' (k := hf4') (h := hf3) (hS := by simp)
  clear hcur hb4' hf4' hs4' hb3 hf3
  dsimp only
  go_wp2_with fail
  have h4 := h.ext hf4
  have hc4 : Hid (∀ k, k ≤ m → (splice cur4 16 (l.take k)).length = 1024) := by
    intro k hk
    rw [length_splice _ _ _ (by rw [hl4, List.length_take, HL.out]; omega)]; exact hl4
  go_loopw [10] (fun i wr => ∃ k : Nat, k ≤ m ∧ i = .int .i64 k ∧ Blk wr w.heap.size 5 (byts (splice cur4 16 (l.take k))) ∧ Fr w.heap.size [] w wr) (fun i _ => m - (intOf i).toNat)
  case atStart => exact ⟨0, by omega, rfl, by simpa [splice] using hb4, hf4⟩
  case round =>
    obtain ⟨k, hk, rfl, hbk, hfk⟩ := hrel
    by_cases hlt : k < m
    · have hk4 := h.ext hfk
      obtain ⟨b, o, rfl⟩ := h.addr (by omega)
      have hc := hk4.at k hlt
      simp only [byts, List.getElem_map, byt] at hc
      have hlk : k < l.length := by rw [HL.out]; exact hlt
      obtain ⟨q, hq⟩ : ∃ q, q = 16 + k := ⟨_, rfl⟩
      have e1 : IntKind.i64.wrap (16 + (k : Int)) = (q : Int) := by rw [IntWalk.i64_in _ (by omega)]; omega
      have e2 : 16 + (k : Int) = (q : Int) := by omega
      have e3 : (q : Int) < 1024 := by omega
      have hcell : ∃ u, wr.cell? ⟨w.heap.size, q, none⟩ = some u := by
        rw [hbk.cell q]
        exact ⟨_, List.getElem?_eq_getElem (by rw [byts_length, hc4.out k hk]; omega)⟩
      obtain ⟨u, hcell⟩ := hcell
      have hfro := hbk.frozen q
      have hnext := hbk.setCell q (byt (l[k]'hlk))
      have hset : Hid ((byts (splice cur4 16 (l.take k))).set q (byt (l[k]'hlk)) = byts (splice cur4 16 (l.take (k + 1)))) := by
        show _ = _
        rw [byts, byts, ← List.map_set, hq, List.take_succ_eq_append_getElem hlk]
        congr 1
        have hl : (l.take k).length = k := by rw [List.length_take]; omega
        have := splice_snoc cur4 (l.take k) (l[k]'hlk) 16 (by rw [hl]; omega)
        rwa [hl] at this
      rw [hset.out] at hnext
      have hfr2 : Fr w.heap.size [] w (wr.setCell ⟨w.heap.size, q, none⟩ (byt (l[k]'hlk))) := hfk.setCell (.inr (Nat.le_refl _)) _
      have hbyt : byt (l[k]'hlk) = .int .u8 ((l[k]'hlk).toNat : Int) := rfl
      rw [hbyt] at hnext hfr2
      clear hset hq hbyt
      generalize (l[k]'hlk) = z at *
      have hz := z.toNat_lt
      go_wp2
      go_roundw
      case rel => exact ⟨k + 1, by omega, by go_num, hnext, hfr2⟩
      case measure => simp [intOf] <;> omega
    · have hkk : k = m := by omega
      have HB : Hid (splice cur4 16 (l.take k) = bare kind n.toNat count.toNat l) := by
        show _ = _
        rw [List.take_of_length_le (by rw [HL.out]; omega), HC4.out, HC3.out, HC2.out, HC1.out, Int.toNat_natCast, ← HL.out]
        exact made_steps kind n.toNat count.toNat l (by rw [HL.out]; omega)
      rw [HB.out] at hbk
      have hbl : (bare kind n.toNat count.toNat l).length = 1024 := bare_length _ _ _ _ (by rw [HL.out]; omega)
      have hS := hbk.sl_all 1024 (by rw [byts_length]; exact hbl) (by omega)
      have hbk' : Blk wr w.heap.size 5 (byts (bare kind n.toNat count.toNat l) ++ []) := by rw [List.append_nil]; exact hbk
      have hx := (crc (bare kind n.toNat count.toNat l)).isLt
      have HX : Hid (pgSum (bare kind n.toNat count.toNat l) = be4 (crc (bare kind n.toNat count.toNat l)).toNat) := by show _ = _; rw [pgSum, sumIn_bare]
      have HML := hid (made_last kind n.toNat count.toNat l)
      rw [HX.out] at HML
      clear HX hkk
      go_wp2_with (first | (go_at_call 19; refine (refSum_any _ _ _ (bare kind n.toNat count.toNat l) _ hS).mono ?_; rintro e w' ⟨rfl, rfl⟩))
      refine (put_any _ _ _ (bare kind n.toNat count.toNat l) [] _ _ _ _ hbk' (by omega) (by omega) (by omega) (by omega) (by omega) (by omega) (by omega)).mono ?_
      rintro e w6 ⟨rfl, hb6, hf6, hs6⟩
      simp only [Int.reduceToNat, Int.toNat_natCast, lowB_four, List.append_nil] at hb6
      rw [HML.out] at hb6
      have hf7 : Fr w.heap.size [] w w6 := Fr.call' (k := hf6) (h := hfk) (hS := by simp)
      dsimp only
      go_wp2
      go_ret
      exact ⟨rfl, hb6, hf7, hb6.lt⟩


set_option maxHeartbeats 1000000 in
theorem refSealed_any (b o c : Nat) (l : List UInt8) (w : World) (h : Sl w (some ⟨b, o, none⟩) 1024 c (byts l)) :
    Calls Tryd.prog 41 #[.slice (some ⟨b, o, none⟩) 1024 c] w fun e w' => e = .returned (.bool (sealedB l)) ∧ Fr w.heap.size [] w w' := by
  have hle := h.le
  have hcap := h.cap
  have hlen := h.len
  rw [byts_length] at hlen
  have HL := hid hlen
  clear hlen
  obtain ⟨i, hi, hz, hsz, hby⟩ := info_parts infoU8
  have JI := hid hi
  have JZ := hid hz
  have JS := hid hsz
  have JB := hid hby
  clear hi hz hsz hby
  go_enter Tryd.func41, Tryd.ntmps41
  go_wp2_with ((with_reducible show wpList _ _ _ (Oper.mk (some 5) _ _ _ _ _ :: _) _ _); refine wpList_app (by rfl) (.const (.slice none 0 0)) (.tmp 4) 22 (by rfl) w.heap.size 5 Tryd.underlying22 JI.out JZ.out JS.out JB.out (by rfl) (by rfl) (by rfl) (Ow.nil _ _ _) h (byts_oneCell _) (by simp [maxLen]) (by omega) (by simp) ?_)
  intro a6 c6 w6 how6 hf6 hn6 hl6
  have hf6' : Fr w.heap.size [] w w6 := by
    have e : blk none = [] := rfl
    rw [e] at hf6
    exact hf6
  obtain ⟨g6, r6, rfl, hg6, hb6, hlen6, hcc6⟩ := how6.blk (by omega)
  clear how6 hn6 hl6 hf6
  go_wp2_with fail
  refine (put_any _ _ _ l r6 _ _ _ _ hb6 (by rw [HL.out]) (by omega) (by omega) (by omega) (by omega) (by omega) (by omega)).mono ?_
  rintro e w7 ⟨rfl, hb7, hf7, hs7⟩
  simp only [Int.reduceToNat, lowB_four] at hb7
  rw [splice_sumIn] at hb7
  have hf7' : Fr w.heap.size [] w w7 := Fr.call' (k := hf7) (h := hf6') (hS := by simp; omega)
  have hsl : (sumIn l).length = 1024 := by simp [sumIn]; have := HL.out; omega
  have S7 := hid (Blk.sl hb7 0 1024 c6 (by rw [List.length_append, byts_length, HL.out] at hlen6; omega) (by rw [List.length_append, byts_length, hsl]; omega) hcc6)
  have S7' : Hid (Sl w7 (some ⟨g6, 0, none⟩) 1024 c6 (byts (sumIn l))) := by
    have := S7.out
    rw [List.drop_zero, List.take_left' (by rw [byts_length, hsl])] at this
    exact this
  have H7 := hid (h.ext hf7')
  have hx := (crc (sumIn l)).isLt
  dsimp only
  go_wp2_with (first | (go_at_call 35; refine (refNumber_any _ _ _ l _ _ _ H7.out (by omega) (by omega) (by omega) (by omega)).mono ?_; rintro e w' ⟨rfl, rfl⟩) | (go_at_call 19; refine (refSum_any _ _ _ (sumIn l) _ S7'.out).mono ?_; rintro e w' ⟨rfl, rfl⟩))
  go_ret
  exact ⟨rfl, hf7'⟩

set_option maxHeartbeats 1000000 in
theorem refBegun_any (kv : Int) (kind : UInt8) (hkv : kv = (kind.toNat : Int)) (a : Option Addr) (m c : Nat) (l : List UInt8) (w : World) (_ht : Tabled w) (h : Sl w a m c (byts l)) :
    Calls Tryd.prog 34 #[.slice a m c, .int .u8 kv] w fun e w' => e = .returned (.int .i64 (whErr kind l)) ∧ Fr w.heap.size [] w w' := by
  have hle := h.le
  have hcap := h.cap
  have hlen := h.len
  rw [byts_length] at hlen
  by_cases h1 : m = 1024
  case neg =>
    have hb : Hid (whErr kind l = 12) := by show _ = _; rw [whErr, if_pos (by omega)]
    have h1' : ((m : Int) != 1024) = true := by simp; omega
    clear hlen
    go_enter Tryd.func34, Tryd.ntmps34
    go_wp2
    go_ret
    exact ⟨by rw [hb.out]; rfl, Fr.refl _ _ _⟩
  subst h1
  obtain ⟨b, o, rfl⟩ := h.addr (by omega)
  have c0 := h.at 0 (by omega)
  have c1 := h.at 1 (by omega)
  simp only [byts, List.getElem_map, byt, Nat.add_zero] at c0 c1
  have g0 : l.getD 0 0 = l[0]'(by omega) := by simp [List.getD, List.getElem?_eq_getElem (show 0 < l.length by omega)]
  have g1 : l.getD 1 0 = l[1]'(by omega) := by simp [List.getD, List.getElem?_eq_getElem (show 1 < l.length by omega)]
  generalize (l[0]'(by omega)) = x0 at *
  generalize (l[1]'(by omega)) = x1 at *
  have hx0 := x0.toNat_lt
  have hx1 := x1.toNat_lt
  by_cases h2 : x0 = 0xd6
  case neg =>
    have hb : Hid (whErr kind l = 100) := by show _ = _; rw [whErr, if_neg (by omega), if_pos (by rw [g0]; exact h2)]
    have h2' : ((x0.toNat : Int) != 214) = true := by
      simp; intro hh; apply h2; apply UInt8.toNat_inj.1; simp; omega
    clear hlen g0 g1
    go_enter Tryd.func34, Tryd.ntmps34
    go_wp2
    go_ret
    exact ⟨by rw [hb.out]; rfl, Fr.refl _ _ _⟩
  subst h2
  have c0' : w.cell? ⟨b, o, none⟩ = some (.int .u8 214) := c0
  clear c0
  by_cases h3 : x1 = kind
  case neg =>
    have hb : Hid (whErr kind l = 103) := by show _ = _; rw [whErr, if_neg (by omega), if_neg (by rw [g0]; simp), if_pos (by rw [g1]; exact h3)]
    have h3' : ((x1.toNat : Int) != kv) = true := by
      rw [hkv]; simp; intro hh; apply h3; apply UInt8.toNat_inj.1; omega
    clear hlen g0 g1 hkv
    go_enter Tryd.func34, Tryd.ntmps34
    go_wp2
    go_ret
    exact ⟨by rw [hb.out]; rfl, Fr.refl _ _ _⟩
  subst h3
  have h3' : ((x1.toNat : Int) != kv) = false := by rw [hkv]; simp
  have hfin : Hid (whErr x1 l = if sealedB l = true then 0 else 101) := by
    show _ = _; rw [whErr, if_neg (by omega), if_neg (by rw [g0]; simp), if_neg (by rw [g1]; simp)]
    by_cases hq : sealedB l = true
    · rw [if_pos hq, if_neg (by simpa using (sealedB_iff (by omega)).1 hq)]
    · rw [if_neg hq, if_pos (fun hh => hq ((sealedB_iff (by omega)).2 hh))]
  clear hlen g0 g1 hkv
  by_cases h4 : sealedB l = true
  all_goals
    go_enter Tryd.func34, Tryd.ntmps34
    go_wp2_with (go_at_call 41; refine (refSealed_any _ _ _ l _ h).mono ?_; rintro e e' ⟨rfl, hf⟩)
    go_ret
    exact ⟨by rw [hfin.out]; simp [h4], hf⟩

set_option maxHeartbeats 1000000 in
theorem refMake_any (number count : Int) (a : Option Addr) (m c : Nat) (l : List UInt8) (w : World) (_ht : Tabled w) (h : Sl w a m c (byts l)) :
    Calls Tryd.prog 20 #[.int .i64 number, .int .i64 count, .slice a m c] w fun e w' => ∃ a' n' c', e = .returned (.tuple #[.slice a' n' c', .int .i64 (mkErr number count l.length)]) ∧ Ow w' w.heap.size 5 a' n' c' (byts (mkPage number count l)) ∧ Fr w.heap.size [] w w' := by
  have hle := h.le
  have hcap := h.cap
  have hlen := h.len
  rw [byts_length] at hlen
  have bad : ∀ x : Int, mkErr number count l.length = x → x ≠ 0 → ∃ a' n' c', Ending.returned (.tuple #[.slice none 0 0, .int .i64 x]) = .returned (.tuple #[.slice a' n' c', .int .i64 (mkErr number count l.length)]) ∧ Ow w w.heap.size 5 a' n' c' (byts (mkPage number count l)) ∧ Fr w.heap.size [] w w := by
    intro x hx hx0
    refine ⟨none, 0, 0, by rw [hx], ?_, Fr.refl _ _ _⟩
    rw [mkPage, hx, if_neg hx0]
    exact World.ownsRow_nil _ _ _ _
  by_cases h1 : number < 1
  · have hb := hid (bad 4 (by simp [mkErr, h1]) (by omega))
    clear bad hlen
    go_enter Tryd.func20, Tryd.ntmps20
    go_wp2
    go_ret2
    exact hb.out
  by_cases h2 : 250 ≤ number
  · have hb := hid (bad 4 (by simp [mkErr, h2]) (by omega))
    clear bad hlen
    go_enter Tryd.func20, Tryd.ntmps20
    go_wp2
    go_ret2
    exact hb.out
  by_cases h3 : count < 1
  · have hb := hid (bad 4 (by simp [mkErr, h3]) (by omega))
    clear bad hlen
    go_enter Tryd.func20, Tryd.ntmps20
    go_wp2
    go_ret2
    exact hb.out
  by_cases h4 : 65535 < count
  · have hb := hid (bad 4 (by simp [mkErr, h4]) (by omega))
    clear bad hlen
    go_enter Tryd.func20, Tryd.ntmps20
    go_wp2
    go_ret2
    exact hb.out
  by_cases h5 : m = 0
  · have hb := hid (bad 6 (by simp [mkErr, h1, h2, h3, h4, hlen, h5]) (by omega))
    have h5' : ((m : Int) == 0) = true := by simp [h5]
    clear bad hlen h5
    go_enter Tryd.func20, Tryd.ntmps20
    go_wp2
    go_ret2
    exact hb.out
  have h5' : ((m : Int) == 0) = false := by simp; omega
  by_cases h6 : 1008 < m
  · have hb := hid (bad 5 (by simp [mkErr, h1, h2, h3, h4, hlen, h5, h6]) (by omega))
    clear bad hlen
    go_enter Tryd.func20, Tryd.ntmps20
    go_wp2
    go_ret2
    exact hb.out
  have hok : mkErr number count l.length = 0 := by rw [mkErr, if_neg (by omega), if_neg (by omega), if_neg (by omega)]
  have HOK := hid hok
  have hpg : Hid (mkPage number count l = pgMade 2 number.toNat count.toNat l) := by show _ = _; rw [mkPage, if_pos hok]
  have hpl : (pgMade 2 number.toNat count.toNat l).length = 1024 := pgMade_length _ _ _ _ (by omega)
  have HPL := hid hpl
  clear bad hlen hok hpl
  go_enter Tryd.func20, Tryd.ntmps20
  go_wp2_with (go_at_call 33; refine (refWhole_any _ 2 rfl _ _ (by omega) (by omega) (by omega) (by omega) _ _ _ _ _ trivial h (by omega)).mono ?_; rintro e w' ⟨rfl, hb, hf, hs⟩)
  go_ret2
  refine ⟨some ⟨w.heap.size, 0, none⟩, 1024, 1024, by rw [HOK.out]; rfl, ?_, hf⟩
  rw [hpg.out]
  refine ⟨by rw [byts_length, HPL.out], .inr ⟨w.heap.size, 1024, _, rfl, Nat.le_refl _, hb, by omega, by simp [maxLen], by simp [byts_length, HPL.out], ?_⟩⟩
  rw [List.take_of_length_le (by simp [byts_length, HPL.out])]
set_option maxHeartbeats 1000000 in
theorem refFits_any (pages used records : Int) (w : World) : Calls Tryd.prog 37 #[.int .i64 pages, .int .i64 used, .int .i64 records] w fun e w' => e = .returned (.bool (mayB pages used records)) ∧ w = w' := by
  by_cases h1 : 1 ≤ pages
  case neg =>
    have hb : Hid (mayB pages used records = false) := by show _ = _; simp [mayB, h1]
    go_enter Tryd.func37, Tryd.ntmps37
    go_wp2
    go_ret
    exact ⟨by rw [hb.out]; rfl, rfl⟩
  by_cases h2 : pages ≤ 250
  case neg =>
    have hb : Hid (mayB pages used records = false) := by show _ = _; simp [mayB, h2]
    go_enter Tryd.func37, Tryd.ntmps37
    go_wp2
    go_ret
    exact ⟨by rw [hb.out]; rfl, rfl⟩
  by_cases h3 : 0 ≤ used
  case neg =>
    have hb : Hid (mayB pages used records = false) := by show _ = _; simp [mayB, h3]
    go_enter Tryd.func37, Tryd.ntmps37
    go_wp2
    go_ret
    exact ⟨by rw [hb.out]; rfl, rfl⟩
  by_cases h4 : used < pages
  case neg =>
    have hb : Hid (mayB pages used records = false) := by show _ = _; simp [mayB]; omega
    go_enter Tryd.func37, Tryd.ntmps37
    go_wp2
    go_ret
    exact ⟨by rw [hb.out]; rfl, rfl⟩
  by_cases h5 : 0 ≤ records
  case neg =>
    have hb : Hid (mayB pages used records = false) := by show _ = _; simp [mayB, h5]
    go_enter Tryd.func37, Tryd.ntmps37
    go_wp2
    go_ret
    exact ⟨by rw [hb.out]; rfl, rfl⟩
  have hb : Hid (mayB pages used records = decide (records ≤ 65535 * used)) := by show _ = _; simp [mayB, h1, h2, h3, h5]; omega
  go_enter Tryd.func37, Tryd.ntmps37
  go_wp2
  go_ret
  exact ⟨by rw [hb.out]; rfl, rfl⟩

end Go.Proofs.YtipmfbpomhcfcaaDoor
