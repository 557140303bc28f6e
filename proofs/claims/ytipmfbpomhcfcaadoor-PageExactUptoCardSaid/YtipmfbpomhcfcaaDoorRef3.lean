/- The walks of the document's Open, Head and OpenHead. -/
import Derived.Test.YtipmfbpomhcfcaaDoorRef2
namespace Go.Proofs.YtipmfbpomhcfcaaDoor
open Go Go.RowKit Go.Le

theorem refNumber_lit (a : Option Addr) (n c : Nat) (l : List UInt8) (w : World) (h : Sl w a n c (byts l)) (A S E : Nat) (at' size : Int) (hA : at' = (A : Int)) (hS : size = (S : Int)) (hE : A + S = E) (x : Nat) (hx : num (sub l A E) = x) (h3 : A + S ≤ n) (h4 : S ≤ 4) :
    Calls Tryd.prog 35 #[.slice a n c, .int .i64 at', .int .i64 size] w fun e w' => e = .returned (.int .i64 (x : Int)) ∧ w = w' := by
  subst hA; subst hS; subst hE; subst hx
  have := refNumber_any a n c l A S w h (by omega) (by omega) (by omega) (by omega)
  rw [Int.toNat_natCast, show ((A : Int) + (S : Int)).toNat = A + S by omega] at this
  exact this
theorem refZeros_lit (a : Option Addr) (n c : Nat) (l : List UInt8) (w : World) (h : Sl w a n c (byts l)) (A S : Nat) (lo hi : Int) (hA : lo = (A : Int)) (hS : hi = (S : Int)) (x : Bool) (hx : zeros (sub l A S) = x) (h3 : A ≤ S) (h4 : S ≤ n) :
    Calls Tryd.prog 36 #[.slice a n c, .int .i64 lo, .int .i64 hi] w fun e w' => e = .returned (.bool x) ∧ w = w' := by
  subst hA; subst hS; subst hx
  have := refZeros_any a n c l A S w h (by omega) (by omega) (by omega)
  simp only [Int.toNat_natCast] at this
  exact this
theorem sub_drop (l : List UInt8) (hl : l.length = 1024) (i : Nat) : sub l i 1024 = l.drop i := by rw [sub, List.take_of_length_le (by omega)]

set_option maxRecDepth 100000 in
set_option maxHeartbeats 2000000 in
theorem refOpen_any (asked : Int) (a : Option Addr) (m c : Nat) (l : List UInt8) (w : World) (ht : Tabled w) (h : Sl w a m c (byts l)) :
    Calls Tryd.prog 22 #[.slice a m c, .int .i64 asked] w fun e w' => ∃ a' n' c', e = .returned (.tuple #[.int .i64 (opCount asked l : Nat), .slice a' n' c', .int .i64 (opErr asked l)]) ∧ Ow w' w.heap.size 5 a' n' c' (byts (opCont asked l)) ∧ Fr w.heap.size [] w w' := by
  have hle := h.le
  have hcap := h.cap
  have hlen := h.len
  rw [byts_length] at hlen
  have bad : Hid (∀ x : Int, opErr asked l = x → x ≠ 0 → ∀ w', Fr w.heap.size [] w w' → ∃ a' n' c', Ending.returned (.tuple #[.int .i64 0, .slice none 0 0, .int .i64 x]) = .returned (.tuple #[.int .i64 (opCount asked l : Nat), .slice a' n' c', .int .i64 (opErr asked l)]) ∧ Ow w' w.heap.size 5 a' n' c' (byts (opCont asked l)) ∧ Fr w.heap.size [] w w') := by
    intro x hx hx0 w' hf
    refine ⟨none, 0, 0, by rw [opCount, hx, if_neg hx0]; rfl, ?_, hf⟩
    rw [opCont, hx, if_neg hx0]
    exact Ow.nil _ _ _
  have HT := hid ht
  clear ht
  by_cases hw : whErr 2 l = 0
  case neg =>
    have hb : Hid (opErr asked l = whErr 2 l) := by show _ = _; rw [opErr, if_pos hw]
    have hw1 : (whErr 2 l != 0) = true := by simpa using hw
    have HW := hid hw
    clear hw hlen
    go_enter Tryd.func22, Tryd.ntmps22
    go_wp2_with (go_at_call 34; refine (refBegun_any _ 2 rfl _ _ _ l _ HT.out h).mono ?_; rintro e w1 ⟨rfl, hf⟩)
    go_ret3
    exact bad.out _ hb.out HW.out _ hf
  have hl := whErr_len hw
  have hm : m = 1024 := by omega
  subst hm
  obtain ⟨b, o, rfl⟩ := h.addr (by omega)
  have hb : Hid (opErr asked l = opWhyN asked (num (sub l 2 4)) (num (sub l 4 6)) (num (sub l 6 8)) (zeros (sub l 8 12)) (zeros (l.drop (16 + num (sub l 6 8))))) := by show _ = _; rw [opErr, if_neg (by simpa using hw)]; rfl
  have HW := hid hw
  have HL := hid hlen
  clear hw hl hlen
  have n2 := num_sub_lt l 2
  have n4 := num_sub_lt l 4
  have n6 := num_sub_lt l 6
  have hcnt : Hid (opErr asked l = 0 → opCount asked l = num (sub l 4 6)) := fun hx => by rw [opCount, if_pos hx]
  have hcont : Hid (opErr asked l = 0 → opCont asked l = sub l 16 (16 + num (sub l 6 8))) := fun hx => by rw [opCont, if_pos hx, sub_cont]
  generalize hN : num (sub l 2 4) = N at *
  generalize hC : num (sub l 4 6) = C at *
  generalize hL : num (sub l 6 8) = L at *
  have Z2 := hid hN
  have Z4 := hid hC
  have Z6 := hid hL
  clear hN hC hL
  generalize hz8 : zeros (sub l 8 12) = z8 at *
  have Z8 := hid hz8
  clear hz8
  have ZR := hid (show zeros (sub l (16 + L) 1024) = zeros (l.drop (16 + L)) by rw [sub_drop l HL.out])
  generalize hzr : zeros (l.drop (16 + L)) = zr at *
  clear hzr
  go_enter Tryd.func22, Tryd.ntmps22
  go_wp2_with (go_at_call 34; refine (refBegun_any _ 2 rfl _ _ _ l _ HT.out h).mono ?_; rintro e w1 ⟨rfl, hf⟩; rw [HW.out]; dsimp only)
  have KA := hid (h.ext hf)
  have KP := h.ext hf
  clear h
  by_cases t1 : (N : Int) = asked
  case neg =>
    have t1' : ((N : Int) != asked) = true := by simpa using t1
    have hx : Hid (opErr asked l = 102) := by show _ = _; rw [hb.out]; rw [opWhyN, if_pos t1]
    clear hb KP
    go_wp2_with (first | (go_at_call 35; first | ((with_reducible refine (refNumber_lit _ _ _ l _ KA.out 2 2 4 _ _ (by omega) (by omega) (by omega) _ Z2.out (by omega) (by omega)).mono ?_); rintro e w3 ⟨rfl, rfl⟩; dsimp only) | ((with_reducible refine (refNumber_lit _ _ _ l _ KA.out 4 2 6 _ _ (by omega) (by omega) (by omega) _ Z4.out (by omega) (by omega)).mono ?_); rintro e w3 ⟨rfl, rfl⟩; dsimp only) | ((with_reducible refine (refNumber_lit _ _ _ l _ KA.out 6 2 8 _ _ (by omega) (by omega) (by omega) _ Z6.out (by omega) (by omega)).mono ?_); rintro e w3 ⟨rfl, rfl⟩; dsimp only)))
    go_ret3
    exact bad.out _ hx.out (by omega) _ hf
  subst t1
  by_cases t2 : N < 1
  case pos =>
    have t2' : (N : Int) < 1 := by omega
    have hx : Hid (opErr (N : Int) l = 4) := by show _ = _; rw [hb.out]; rw [opWhyN, if_neg (by simp), if_pos (.inl t2)]
    clear hb KP
    go_wp2_with (first | (go_at_call 35; first | ((with_reducible refine (refNumber_lit _ _ _ l _ KA.out 2 2 4 _ _ (by omega) (by omega) (by omega) _ Z2.out (by omega) (by omega)).mono ?_); rintro e w3 ⟨rfl, rfl⟩; dsimp only) | ((with_reducible refine (refNumber_lit _ _ _ l _ KA.out 4 2 6 _ _ (by omega) (by omega) (by omega) _ Z4.out (by omega) (by omega)).mono ?_); rintro e w3 ⟨rfl, rfl⟩; dsimp only) | ((with_reducible refine (refNumber_lit _ _ _ l _ KA.out 6 2 8 _ _ (by omega) (by omega) (by omega) _ Z6.out (by omega) (by omega)).mono ?_); rintro e w3 ⟨rfl, rfl⟩; dsimp only)))
    go_ret3
    exact bad.out _ hx.out (by omega) _ hf
  have t2' : ¬ (N : Int) < 1 := by omega
  by_cases t3 : 250 ≤ N
  case pos =>
    have t3' : (250 : Int) ≤ N := by omega
    have hx : Hid (opErr (N : Int) l = 4) := by show _ = _; rw [hb.out]; rw [opWhyN, if_neg (by simp), if_pos (.inr (.inl t3))]
    clear hb KP
    go_wp2_with (first | (go_at_call 35; first | ((with_reducible refine (refNumber_lit _ _ _ l _ KA.out 2 2 4 _ _ (by omega) (by omega) (by omega) _ Z2.out (by omega) (by omega)).mono ?_); rintro e w3 ⟨rfl, rfl⟩; dsimp only) | ((with_reducible refine (refNumber_lit _ _ _ l _ KA.out 4 2 6 _ _ (by omega) (by omega) (by omega) _ Z4.out (by omega) (by omega)).mono ?_); rintro e w3 ⟨rfl, rfl⟩; dsimp only) | ((with_reducible refine (refNumber_lit _ _ _ l _ KA.out 6 2 8 _ _ (by omega) (by omega) (by omega) _ Z6.out (by omega) (by omega)).mono ?_); rintro e w3 ⟨rfl, rfl⟩; dsimp only)))
    go_ret3
    exact bad.out _ hx.out (by omega) _ hf
  have t3' : ¬ (250 : Int) ≤ N := by omega
  by_cases t4 : C = 0
  case pos =>
    have t4' : ((C : Int) == 0) = true := by simpa using t4
    have hx : Hid (opErr (N : Int) l = 4) := by show _ = _; rw [hb.out]; rw [opWhyN, if_neg (by simp), if_pos (.inr (.inr t4))]
    clear hb KP
    go_wp2_with (first | (go_at_call 35; first | ((with_reducible refine (refNumber_lit _ _ _ l _ KA.out 2 2 4 _ _ (by omega) (by omega) (by omega) _ Z2.out (by omega) (by omega)).mono ?_); rintro e w3 ⟨rfl, rfl⟩; dsimp only) | ((with_reducible refine (refNumber_lit _ _ _ l _ KA.out 4 2 6 _ _ (by omega) (by omega) (by omega) _ Z4.out (by omega) (by omega)).mono ?_); rintro e w3 ⟨rfl, rfl⟩; dsimp only) | ((with_reducible refine (refNumber_lit _ _ _ l _ KA.out 6 2 8 _ _ (by omega) (by omega) (by omega) _ Z6.out (by omega) (by omega)).mono ?_); rintro e w3 ⟨rfl, rfl⟩; dsimp only)))
    go_ret3
    exact bad.out _ hx.out (by omega) _ hf
  have t4' : ((C : Int) == 0) = false := by simpa using t4
  by_cases t5 : z8 = false
  case pos =>
    subst t5
    have hx : Hid (opErr (N : Int) l = 104) := by show _ = _; rw [hb.out]; rw [opWhyN, if_neg (by simp), if_neg (by omega), if_pos rfl]
    clear hb KP
    go_wp2_with (first | (go_at_call 35; first | ((with_reducible refine (refNumber_lit _ _ _ l _ KA.out 2 2 4 _ _ (by omega) (by omega) (by omega) _ Z2.out (by omega) (by omega)).mono ?_); rintro e w3 ⟨rfl, rfl⟩; dsimp only) | ((with_reducible refine (refNumber_lit _ _ _ l _ KA.out 4 2 6 _ _ (by omega) (by omega) (by omega) _ Z4.out (by omega) (by omega)).mono ?_); rintro e w3 ⟨rfl, rfl⟩; dsimp only) | ((with_reducible refine (refNumber_lit _ _ _ l _ KA.out 6 2 8 _ _ (by omega) (by omega) (by omega) _ Z6.out (by omega) (by omega)).mono ?_); rintro e w3 ⟨rfl, rfl⟩; dsimp only)) | (go_at_call 36; first | ((with_reducible refine (refZeros_lit _ _ _ l _ KA.out 8 12 _ _ (by omega) (by omega) _ Z8.out (by omega) (by omega)).mono ?_); rintro e w3 ⟨rfl, rfl⟩; dsimp only)))
    go_ret3
    exact bad.out _ hx.out (by omega) _ hf
  have t5' : z8 = true := by simpa using t5
  subst t5'
  by_cases t6 : L = 0
  case pos =>
    have t6' : ((L : Int) == 0) = true := by simpa using t6
    have hx : Hid (opErr (N : Int) l = 6) := by show _ = _; rw [hb.out]; rw [opWhyN, if_neg (by simp), if_neg (by omega), if_neg (by simp), if_pos t6]
    clear hb KP
    go_wp2_with (first | (go_at_call 35; first | ((with_reducible refine (refNumber_lit _ _ _ l _ KA.out 2 2 4 _ _ (by omega) (by omega) (by omega) _ Z2.out (by omega) (by omega)).mono ?_); rintro e w3 ⟨rfl, rfl⟩; dsimp only) | ((with_reducible refine (refNumber_lit _ _ _ l _ KA.out 4 2 6 _ _ (by omega) (by omega) (by omega) _ Z4.out (by omega) (by omega)).mono ?_); rintro e w3 ⟨rfl, rfl⟩; dsimp only) | ((with_reducible refine (refNumber_lit _ _ _ l _ KA.out 6 2 8 _ _ (by omega) (by omega) (by omega) _ Z6.out (by omega) (by omega)).mono ?_); rintro e w3 ⟨rfl, rfl⟩; dsimp only)) | (go_at_call 36; first | ((with_reducible refine (refZeros_lit _ _ _ l _ KA.out 8 12 _ _ (by omega) (by omega) _ Z8.out (by omega) (by omega)).mono ?_); rintro e w3 ⟨rfl, rfl⟩; dsimp only)))
    go_ret3
    exact bad.out _ hx.out (by omega) _ hf
  have t6' : ((L : Int) == 0) = false := by simpa using t6
  by_cases t7 : 1008 < L
  case pos =>
    have t7' : (1008 : Int) < L := by omega
    have hx : Hid (opErr (N : Int) l = 5) := by show _ = _; rw [hb.out]; rw [opWhyN, if_neg (by simp), if_neg (by omega), if_neg (by simp), if_neg t6, if_pos t7]
    clear hb KP
    go_wp2_with (first | (go_at_call 35; first | ((with_reducible refine (refNumber_lit _ _ _ l _ KA.out 2 2 4 _ _ (by omega) (by omega) (by omega) _ Z2.out (by omega) (by omega)).mono ?_); rintro e w3 ⟨rfl, rfl⟩; dsimp only) | ((with_reducible refine (refNumber_lit _ _ _ l _ KA.out 4 2 6 _ _ (by omega) (by omega) (by omega) _ Z4.out (by omega) (by omega)).mono ?_); rintro e w3 ⟨rfl, rfl⟩; dsimp only) | ((with_reducible refine (refNumber_lit _ _ _ l _ KA.out 6 2 8 _ _ (by omega) (by omega) (by omega) _ Z6.out (by omega) (by omega)).mono ?_); rintro e w3 ⟨rfl, rfl⟩; dsimp only)) | (go_at_call 36; first | ((with_reducible refine (refZeros_lit _ _ _ l _ KA.out 8 12 _ _ (by omega) (by omega) _ Z8.out (by omega) (by omega)).mono ?_); rintro e w3 ⟨rfl, rfl⟩; dsimp only)))
    go_ret3
    exact bad.out _ hx.out (by omega) _ hf
  have t7' : ¬ (1008 : Int) < L := by omega
  by_cases t8 : zr = false
  case pos =>
    subst t8
    have hx : Hid (opErr (N : Int) l = 104) := by show _ = _; rw [hb.out]; rw [opWhyN, if_neg (by simp), if_neg (by omega), if_neg (by simp), if_neg t6, if_neg t7, if_pos rfl]
    clear hb KP
    go_wp2_with (first | (go_at_call 35; first | ((with_reducible refine (refNumber_lit _ _ _ l _ KA.out 2 2 4 _ _ (by omega) (by omega) (by omega) _ Z2.out (by omega) (by omega)).mono ?_); rintro e w3 ⟨rfl, rfl⟩; dsimp only) | ((with_reducible refine (refNumber_lit _ _ _ l _ KA.out 4 2 6 _ _ (by omega) (by omega) (by omega) _ Z4.out (by omega) (by omega)).mono ?_); rintro e w3 ⟨rfl, rfl⟩; dsimp only) | ((with_reducible refine (refNumber_lit _ _ _ l _ KA.out 6 2 8 _ _ (by omega) (by omega) (by omega) _ Z6.out (by omega) (by omega)).mono ?_); rintro e w3 ⟨rfl, rfl⟩; dsimp only)) | (go_at_call 36; first | ((with_reducible refine (refZeros_lit _ _ _ l _ KA.out 8 12 _ _ (by omega) (by omega) _ Z8.out (by omega) (by omega)).mono ?_); rintro e w3 ⟨rfl, rfl⟩; dsimp only) | ((with_reducible refine (refZeros_lit _ _ _ l _ KA.out (16 + L) 1024 _ _ (by omega) (by omega) _ ZR.out (by omega) (by omega)).mono ?_); rintro e w3 ⟨rfl, rfl⟩; dsimp only)))
    go_ret3
    exact bad.out _ hx.out (by omega) _ hf
  have t8' : zr = true := by simpa using t8
  subst t8'
  have hx : Hid (opErr (N : Int) l = 0) := by show _ = _; rw [hb.out]; rw [opWhyN, if_neg (by simp), if_neg (by omega), if_neg (by simp), if_neg t6, if_neg t7, if_neg (by simp)]
  clear hb
  have lr : (16 + (L : Int)) ≤ 1024 := by omega
  have eb : ((byts l).take (16 + L)).drop 16 = byts (sub l 16 (16 + L)) := byts_sub _ _ _
  have hc16 : (c = 16) = False := by simp; omega
  have KB := KP.cut 16 (16 + L) (by omega) (by omega) (some ⟨b, o + 16, none⟩) (by rw [if_neg (by omega)]; rfl)
  rw [eb] at KB
  clear eb KP
  obtain ⟨i, hi, hz, hsz, hby⟩ := info_parts infoU8
  have HI := hid hi
  have HZ := hid hz
  have HS := hid hsz
  have HB := hid hby
  clear hi hz hsz hby
  have fin : Hid (∀ a' c' w4, opErr (N : Int) l = 0 → Ow w4 w.heap.size 5 a' L c' (byts (sub l 16 (16 + L))) → Fr w.heap.size [] w w4 →
      ∃ a'' n'' c'', Ending.returned (.tuple #[.int .i64 (C : Int), .slice a' L c', .int .i64 0]) = .returned (.tuple #[.int .i64 (opCount (N : Int) l : Nat), .slice a'' n'' c'', .int .i64 (opErr (N : Int) l)]) ∧ Ow w4 w.heap.size 5 a'' n'' c'' (byts (opCont (N : Int) l)) ∧ Fr w.heap.size [] w w4) := by
    intro a' c' w4 hx how hf
    refine ⟨a', L, c', by rw [hx, hcnt.out hx], ?_, hf⟩
    rw [hcont.out hx]
    exact how
  go_wp2_with (first | (go_at_call 35; first | ((with_reducible refine (refNumber_lit _ _ _ l _ KA.out 2 2 4 _ _ (by omega) (by omega) (by omega) _ Z2.out (by omega) (by omega)).mono ?_); rintro e w3 ⟨rfl, rfl⟩; dsimp only) | ((with_reducible refine (refNumber_lit _ _ _ l _ KA.out 4 2 6 _ _ (by omega) (by omega) (by omega) _ Z4.out (by omega) (by omega)).mono ?_); rintro e w3 ⟨rfl, rfl⟩; dsimp only) | ((with_reducible refine (refNumber_lit _ _ _ l _ KA.out 6 2 8 _ _ (by omega) (by omega) (by omega) _ Z6.out (by omega) (by omega)).mono ?_); rintro e w3 ⟨rfl, rfl⟩; dsimp only)) | (go_at_call 36; first | ((with_reducible refine (refZeros_lit _ _ _ l _ KA.out 8 12 _ _ (by omega) (by omega) _ Z8.out (by omega) (by omega)).mono ?_); rintro e w3 ⟨rfl, rfl⟩; dsimp only) | ((with_reducible refine (refZeros_lit _ _ _ l _ KA.out (16 + L) 1024 _ _ (by omega) (by omega) _ ZR.out (by omega) (by omega)).mono ?_); rintro e w3 ⟨rfl, rfl⟩; dsimp only)) | ((with_reducible show wpList _ _ _ (Oper.mk (some 61) _ _ _ _ _ :: _) _ _); refine wpList_app (by rfl) (.const (.slice none 0 0)) (.tmp 60) 22 (by rfl) w.heap.size 5 Tryd.underlying22 HI.out HZ.out HS.out HB.out (by rfl) (by rfl) (by rfl) (Ow.nil _ _ _) KB (byts_oneCell _) (by simp [maxLen]; omega) (by omega) hf.size ?_))
  intro a' c' w4 how hfr hn hlie
  go_wp2
  go_ret3
  have hf4 : Fr w.heap.size [] w w4 := Fr.call' (k := hfr) (h := hf) (hS := by simp [blk])
  exact fin.out _ _ _ hx.out (by simpa using how) hf4

set_option maxRecDepth 100000 in
set_option maxHeartbeats 2000000 in
theorem refOpenHead_any (a : Option Addr) (m c : Nat) (l : List UInt8) (w : World) (ht : Tabled w) (h : Sl w a m c (byts l)) :
    Calls Tryd.prog 24 #[.slice a m c] w fun e w' => e = .returned (.tuple #[.int .i64 (ohOut l (num (sub l 16 18)) : Nat), .int .i64 (ohOut l (num (sub l 18 20)) : Nat), .int .i64 (ohOut l (num (sub l 20 24)) : Nat), .int .i64 (ohErr l)]) ∧ Fr w.heap.size [] w w' := by
  have hle := h.le
  have hcap := h.cap
  have hlen := h.len
  rw [byts_length] at hlen
  have bad : Hid (∀ x : Int, ohErr l = x → x ≠ 0 → Ending.returned (.tuple #[.int .i64 0, .int .i64 0, .int .i64 0, .int .i64 x]) = .returned (.tuple #[.int .i64 (ohOut l (num (sub l 16 18)) : Nat), .int .i64 (ohOut l (num (sub l 18 20)) : Nat), .int .i64 (ohOut l (num (sub l 20 24)) : Nat), .int .i64 (ohErr l)])) := by
    intro x hx hx0
    simp [ohOut, hx, hx0]
  have HT := hid ht
  clear ht
  by_cases hw : whErr 1 l = 0
  case neg =>
    have hb : Hid (ohErr l = whErr 1 l) := by show _ = _; rw [ohErr, if_pos hw]
    have hw1 : (whErr 1 l != 0) = true := by simpa using hw
    have HW := hid hw
    clear hw hlen
    go_enter Tryd.func24, Tryd.ntmps24
    go_wp2_with (go_at_call 34; refine (refBegun_any _ 1 rfl _ _ _ l _ HT.out h).mono ?_; rintro e w1 ⟨rfl, hf⟩)
    refine bodyPost_ret (results_tmp4 rfl _ _ _) rfl ?_
    exact ⟨bad.out _ hb.out HW.out, hf⟩
  have hl := whErr_len hw
  have hm : m = 1024 := by omega
  subst hm
  obtain ⟨b, o, rfl⟩ := h.addr (by omega)
  have hb : Hid (ohErr l = ohWhy (zeros (sub l 2 6)) (zeros (sub l 8 12)) (zeros (l.drop 24)) (num (sub l 6 8)) (num (sub l 16 18)) (num (sub l 18 20)) (num (sub l 20 24))) := by show _ = _; rw [ohErr, if_neg (by simpa using hw)]
  have HW := hid hw
  have HL := hid hlen
  clear hw hl hlen
  have hout : Hid (ohErr l = 0 → ∀ x, ohOut l x = x) := fun hx x => by rw [ohOut, if_pos hx]
  rw [← sub_drop l HL.out] at hb
  generalize hz2 : zeros (sub l 2 6) = z2 at *
  have Z2 := hid hz2
  clear hz2
  generalize hz8 : zeros (sub l 8 12) = z8 at *
  have Z8 := hid hz8
  clear hz8
  generalize hz24 : zeros (sub l 24 1024) = z24 at *
  have Z24 := hid hz24
  clear hz24
  have n6 : num (sub l 6 8) < 65536 := num_sub_lt l 6
  have n16 : num (sub l 16 18) < 65536 := num_sub_lt l 16
  have n18 : num (sub l 18 20) < 65536 := num_sub_lt l 18
  generalize hL : num (sub l 6 8) = L at *
  have Z6 := hid hL
  generalize hP : num (sub l 16 18) = P at *
  have Z16 := hid hP
  generalize hU : num (sub l 18 20) = U at *
  have Z18 := hid hU
  generalize hR : num (sub l 20 24) = R at *
  have Z20 := hid hR
  clear hL hP hU hR
  go_enter Tryd.func24, Tryd.ntmps24
  go_wp2_with (go_at_call 34; refine (refBegun_any _ 1 rfl _ _ _ l _ HT.out h).mono ?_; rintro e w1 ⟨rfl, hf⟩; rw [HW.out]; dsimp only)
  have KA := hid (h.ext hf)
  clear h
  by_cases t2 : z2 = false
  case pos =>
    subst t2
    have hx : Hid (ohErr l = 104) := by show _ = _; rw [hb.out]; rw [ohWhy, if_pos (.inl rfl)]
    clear hb
    go_wp2_with (first | (go_at_call 36; first | ((with_reducible refine (refZeros_lit _ _ _ l _ KA.out 2 6 _ _ (by omega) (by omega) _ Z2.out (by omega) (by omega)).mono ?_); rintro e w3 ⟨rfl, rfl⟩; dsimp only) | ((with_reducible refine (refZeros_lit _ _ _ l _ KA.out 8 12 _ _ (by omega) (by omega) _ Z8.out (by omega) (by omega)).mono ?_); rintro e w3 ⟨rfl, rfl⟩; dsimp only) | ((with_reducible refine (refZeros_lit _ _ _ l _ KA.out 24 1024 _ _ (by omega) (by omega) _ Z24.out (by omega) (by omega)).mono ?_); rintro e w3 ⟨rfl, rfl⟩; dsimp only)))
    refine bodyPost_ret (results_tmp4 rfl _ _ _) rfl ?_
    exact ⟨bad.out _ hx.out (by omega), hf⟩
  have t2' : z2 = true := by simpa using t2
  subst t2' 
  by_cases t8 : z8 = false
  case pos =>
    subst t8
    have hx : Hid (ohErr l = 104) := by show _ = _; rw [hb.out]; rw [ohWhy, if_pos (.inr (.inl rfl))]
    clear hb
    go_wp2_with (first | (go_at_call 36; first | ((with_reducible refine (refZeros_lit _ _ _ l _ KA.out 2 6 _ _ (by omega) (by omega) _ Z2.out (by omega) (by omega)).mono ?_); rintro e w3 ⟨rfl, rfl⟩; dsimp only) | ((with_reducible refine (refZeros_lit _ _ _ l _ KA.out 8 12 _ _ (by omega) (by omega) _ Z8.out (by omega) (by omega)).mono ?_); rintro e w3 ⟨rfl, rfl⟩; dsimp only) | ((with_reducible refine (refZeros_lit _ _ _ l _ KA.out 24 1024 _ _ (by omega) (by omega) _ Z24.out (by omega) (by omega)).mono ?_); rintro e w3 ⟨rfl, rfl⟩; dsimp only)))
    refine bodyPost_ret (results_tmp4 rfl _ _ _) rfl ?_
    exact ⟨bad.out _ hx.out (by omega), hf⟩
  have t8' : z8 = true := by simpa using t8
  subst t8' 
  by_cases t24 : z24 = false
  case pos =>
    subst t24
    have hx : Hid (ohErr l = 104) := by show _ = _; rw [hb.out]; rw [ohWhy, if_pos (.inr (.inr rfl))]
    clear hb
    go_wp2_with (first | (go_at_call 36; first | ((with_reducible refine (refZeros_lit _ _ _ l _ KA.out 2 6 _ _ (by omega) (by omega) _ Z2.out (by omega) (by omega)).mono ?_); rintro e w3 ⟨rfl, rfl⟩; dsimp only) | ((with_reducible refine (refZeros_lit _ _ _ l _ KA.out 8 12 _ _ (by omega) (by omega) _ Z8.out (by omega) (by omega)).mono ?_); rintro e w3 ⟨rfl, rfl⟩; dsimp only) | ((with_reducible refine (refZeros_lit _ _ _ l _ KA.out 24 1024 _ _ (by omega) (by omega) _ Z24.out (by omega) (by omega)).mono ?_); rintro e w3 ⟨rfl, rfl⟩; dsimp only)))
    refine bodyPost_ret (results_tmp4 rfl _ _ _) rfl ?_
    exact ⟨bad.out _ hx.out (by omega), hf⟩
  have t24' : z24 = true := by simpa using t24
  subst t24' 
  by_cases t6 : L = 8
  case neg =>
    have t6' : ((L : Int) != 8) = true := by simp; omega
    have hx : Hid (ohErr l = 12) := by show _ = _; rw [hb.out]; rw [ohWhy, if_neg (by simp), if_pos t6]
    clear hb
    go_wp2_with (first | (go_at_call 36; first | ((with_reducible refine (refZeros_lit _ _ _ l _ KA.out 2 6 _ _ (by omega) (by omega) _ Z2.out (by omega) (by omega)).mono ?_); rintro e w3 ⟨rfl, rfl⟩; dsimp only) | ((with_reducible refine (refZeros_lit _ _ _ l _ KA.out 8 12 _ _ (by omega) (by omega) _ Z8.out (by omega) (by omega)).mono ?_); rintro e w3 ⟨rfl, rfl⟩; dsimp only) | ((with_reducible refine (refZeros_lit _ _ _ l _ KA.out 24 1024 _ _ (by omega) (by omega) _ Z24.out (by omega) (by omega)).mono ?_); rintro e w3 ⟨rfl, rfl⟩; dsimp only)) | (go_at_call 35; first | ((with_reducible refine (refNumber_lit _ _ _ l _ KA.out 6 2 8 _ _ (by omega) (by omega) (by omega) _ Z6.out (by omega) (by omega)).mono ?_); rintro e w3 ⟨rfl, rfl⟩; dsimp only) | ((with_reducible refine (refNumber_lit _ _ _ l _ KA.out 16 2 18 _ _ (by omega) (by omega) (by omega) _ Z16.out (by omega) (by omega)).mono ?_); rintro e w3 ⟨rfl, rfl⟩; dsimp only) | ((with_reducible refine (refNumber_lit _ _ _ l _ KA.out 18 2 20 _ _ (by omega) (by omega) (by omega) _ Z18.out (by omega) (by omega)).mono ?_); rintro e w3 ⟨rfl, rfl⟩; dsimp only) | ((with_reducible refine (refNumber_lit _ _ _ l _ KA.out 20 4 24 _ _ (by omega) (by omega) (by omega) _ Z20.out (by omega) (by omega)).mono ?_); rintro e w3 ⟨rfl, rfl⟩; dsimp only)))
    refine bodyPost_ret (results_tmp4 rfl _ _ _) rfl ?_
    exact ⟨bad.out _ hx.out (by omega), hf⟩
  subst t6
  by_cases t9 : mayB P U R = true
  case pos =>
    have hx : Hid (ohErr l = 0) := by show _ = _; rw [hb.out, ohWhy, if_neg (by simp), if_neg (by omega), if_pos t9]
    clear hb
    have T9 := hid t9
    clear t9
    go_wp2_with (first | (go_at_call 36; first | ((with_reducible refine (refZeros_lit _ _ _ l _ KA.out 2 6 _ _ (by omega) (by omega) _ Z2.out (by omega) (by omega)).mono ?_); rintro e w3 ⟨rfl, rfl⟩; dsimp only) | ((with_reducible refine (refZeros_lit _ _ _ l _ KA.out 8 12 _ _ (by omega) (by omega) _ Z8.out (by omega) (by omega)).mono ?_); rintro e w3 ⟨rfl, rfl⟩; dsimp only) | ((with_reducible refine (refZeros_lit _ _ _ l _ KA.out 24 1024 _ _ (by omega) (by omega) _ Z24.out (by omega) (by omega)).mono ?_); rintro e w3 ⟨rfl, rfl⟩; dsimp only)) | (go_at_call 35; first | ((with_reducible refine (refNumber_lit _ _ _ l _ KA.out 6 2 8 _ _ (by omega) (by omega) (by omega) _ Z6.out (by omega) (by omega)).mono ?_); rintro e w3 ⟨rfl, rfl⟩; dsimp only) | ((with_reducible refine (refNumber_lit _ _ _ l _ KA.out 16 2 18 _ _ (by omega) (by omega) (by omega) _ Z16.out (by omega) (by omega)).mono ?_); rintro e w3 ⟨rfl, rfl⟩; dsimp only) | ((with_reducible refine (refNumber_lit _ _ _ l _ KA.out 18 2 20 _ _ (by omega) (by omega) (by omega) _ Z18.out (by omega) (by omega)).mono ?_); rintro e w3 ⟨rfl, rfl⟩; dsimp only) | ((with_reducible refine (refNumber_lit _ _ _ l _ KA.out 20 4 24 _ _ (by omega) (by omega) (by omega) _ Z20.out (by omega) (by omega)).mono ?_); rintro e w3 ⟨rfl, rfl⟩; dsimp only)) | (go_at_call 37; refine (refFits_any _ _ _ _).mono ?_; rintro e w' ⟨rfl, rfl⟩; rw [T9.out]; dsimp only))
    refine bodyPost_ret (results_tmp4 rfl _ _ _) rfl ?_
    refine ⟨?_, hf⟩
    rw [hout.out hx.out, hout.out hx.out, hout.out hx.out, hx.out]
    rfl
  have t9' : mayB P U R = false := by simpa using t9
  have hx : Hid (ohErr l = 4) := by show _ = _; rw [hb.out, ohWhy, if_neg (by simp), if_neg (by omega), if_neg t9]
  clear hb
  have T9 := hid t9'
  clear t9 t9'
  go_wp2_with (first | (go_at_call 36; first | ((with_reducible refine (refZeros_lit _ _ _ l _ KA.out 2 6 _ _ (by omega) (by omega) _ Z2.out (by omega) (by omega)).mono ?_); rintro e w3 ⟨rfl, rfl⟩; dsimp only) | ((with_reducible refine (refZeros_lit _ _ _ l _ KA.out 8 12 _ _ (by omega) (by omega) _ Z8.out (by omega) (by omega)).mono ?_); rintro e w3 ⟨rfl, rfl⟩; dsimp only) | ((with_reducible refine (refZeros_lit _ _ _ l _ KA.out 24 1024 _ _ (by omega) (by omega) _ Z24.out (by omega) (by omega)).mono ?_); rintro e w3 ⟨rfl, rfl⟩; dsimp only)) | (go_at_call 35; first | ((with_reducible refine (refNumber_lit _ _ _ l _ KA.out 6 2 8 _ _ (by omega) (by omega) (by omega) _ Z6.out (by omega) (by omega)).mono ?_); rintro e w3 ⟨rfl, rfl⟩; dsimp only) | ((with_reducible refine (refNumber_lit _ _ _ l _ KA.out 16 2 18 _ _ (by omega) (by omega) (by omega) _ Z16.out (by omega) (by omega)).mono ?_); rintro e w3 ⟨rfl, rfl⟩; dsimp only) | ((with_reducible refine (refNumber_lit _ _ _ l _ KA.out 18 2 20 _ _ (by omega) (by omega) (by omega) _ Z18.out (by omega) (by omega)).mono ?_); rintro e w3 ⟨rfl, rfl⟩; dsimp only) | ((with_reducible refine (refNumber_lit _ _ _ l _ KA.out 20 4 24 _ _ (by omega) (by omega) (by omega) _ Z20.out (by omega) (by omega)).mono ?_); rintro e w3 ⟨rfl, rfl⟩; dsimp only)) | (go_at_call 37; refine (refFits_any _ _ _ _).mono ?_; rintro e w' ⟨rfl, rfl⟩; rw [T9.out]; dsimp only))
  refine bodyPost_ret (results_tmp4 rfl _ _ _) rfl ?_
  exact ⟨bad.out _ hx.out (by omega), hf⟩

set_option maxHeartbeats 1000000 in
theorem refHead_any (pages used records : Int) (w : World) :
    Calls Tryd.prog 23 #[.int .i64 pages, .int .i64 used, .int .i64 records] w fun e w' => ∃ a' n' c', e = .returned (.tuple #[.slice a' n' c', .int .i64 (if mayB pages used records = true then 0 else 4)]) ∧ Ow w' w.heap.size 5 a' n' c' (byts (hdPage pages used records)) ∧ Fr w.heap.size [] w w' := by
  by_cases hm : mayB pages used records = true
  case neg =>
    have hb : Hid (∃ a' n' c', Ending.returned (.tuple #[.slice none 0 0, .int .i64 4]) = .returned (.tuple #[.slice a' n' c', .int .i64 (if mayB pages used records = true then 0 else 4)]) ∧ Ow w w.heap.size 5 a' n' c' (byts (hdPage pages used records)) ∧ Fr w.heap.size [] w w) := by
      refine ⟨none, 0, 0, by rw [if_neg hm], ?_, Fr.refl _ _ _⟩
      rw [hdPage, if_neg hm]
      exact Ow.nil _ _ _
    have HM := hid (show mayB pages used records = false by simpa using hm)
    clear hm
    generalize (if mayB pages used records = true then (0 : Int) else 4) = E0 at *
    go_enter Tryd.func23, Tryd.ntmps23
    go_wp2_with (first | (go_at_call 37; refine (refFits_any _ _ _ _).mono ?_; rintro e w' ⟨rfl, rfl⟩; rw [HM.out]; dsimp only))
    go_ret2
    exact hb.out
  have HM := hid hm
  simp only [mayB, decide_eq_true_eq] at hm
  obtain ⟨Z, hZ⟩ : ∃ Z, Z = (List.replicate 8 (Value.int .u8 0)).toArray := ⟨_, rfl⟩
  have hmk : ∀ W : World, (Instr.makeSlice 22 (.int .i64 8) (.int .i64 8)).run Tryd.prog W = .ok (.slice (some ⟨W.heap.size, 0, none⟩) 8 8) (W.alloc (.cells Z 5)) :=
    fun W => by rw [hZ]; exact run_make_bytes (P := Tryd.prog) 22 5 Tryd.underlying22 infoU8 .i64 .i64 8 (by omega) (by omega) W
  have HZ : Hid (Z = (byts (List.replicate 8 0)).toArray) := by show _ = _; rw [hZ]; rfl
  clear hZ
  obtain ⟨hm1, hm2, hm3, hm4, hm5, hm6⟩ := hm
  go_enter Tryd.func23, Tryd.ntmps23
  go_wp2_with (first | (go_at_call 37; refine (refFits_any _ _ _ _).mono ?_; rintro e w' ⟨rfl, rfl⟩; rw [HM.out]; dsimp only))
  obtain ⟨w1, hw1⟩ : ∃ w1, w1 = w.alloc (.cells Z 5) := ⟨_, rfl⟩
  rw [← hw1]
  have hb1 : Blk w1 w.heap.size 5 (byts (List.replicate 8 0) ++ []) := by
    rw [hw1, HZ.out, List.append_nil]; exact Blk.new' _ _ rfl
  have hf1 : Fr w.heap.size [] w w1 := by rw [hw1]; exact (by repeat (first | exact Fr.refl _ _ _ | assumption | apply Fr.drew | (refine Fr.drewN ?_ _) | (refine Fr.alloc ?_ (by first | omega | (simp; done) | (simp; omega)) _) | (refine Fr.setCell ?_ (by first | (left; simp; done) | (right; simp; done) | (right; simp; omega)) _)))
  clear hw1 hmk
  obtain ⟨cur1, hcur1⟩ : ∃ x, x = (List.replicate 8 0 : List UInt8) := ⟨_, rfl⟩
  rw [← hcur1] at hb1
  have HC1 := hid hcur1
  have hl1 : cur1.length = 8 := by rw [hcur1]; rfl
  clear hcur1
  refine (put_any _ _ _ cur1 [] _ _ _ _ hb1 (by omega) (by omega) (by omega) (by omega) (by omega) (by omega) (by omega)).mono ?_
  rintro e w2 ⟨rfl, hb2', hf2', hs2'⟩
  obtain ⟨cur2, hcur⟩ : ∃ x, x = splice cur1 0 (be2 pages.toNat) := ⟨_, rfl⟩
  have hb2 : Blk w2 w.heap.size 5 (byts cur2 ++ []) := by
    simp only [Int.reduceToNat, lowB_two] at hb2'
    rw [← hcur] at hb2'
    exact hb2'
  have hl2 : cur2.length = 8 := by rw [hcur, length_splice _ _ _ (by rw [hl1]; exact (by decide : 0 + 2 ≤ 8))]; exact hl1
  have HC2 := hid hcur
  have hf2 : Fr w.heap.size [] w w2 := Fr.call' (k := hf2') (h := hf1) (hS := by simp)
  clear hcur hb2' hf2' hs2' hb1 hf1
  dsimp only
  go_wp2_with fail
  refine (put_any _ _ _ cur2 [] _ _ _ _ hb2 (by omega) (by omega) (by omega) (by omega) (by omega) (by omega) (by omega)).mono ?_
  rintro e w3 ⟨rfl, hb3', hf3', hs3'⟩
  obtain ⟨cur3, hcur⟩ : ∃ x, x = splice cur2 2 (be2 used.toNat) := ⟨_, rfl⟩
  have hb3 : Blk w3 w.heap.size 5 (byts cur3 ++ []) := by
    simp only [Int.reduceToNat, lowB_two] at hb3'
    rw [← hcur] at hb3'
    exact hb3'
  have hl3 : cur3.length = 8 := by rw [hcur, length_splice _ _ _ (by rw [hl2]; exact (by decide : 2 + 2 ≤ 8))]; exact hl2
  have HC3 := hid hcur
  have hf3 : Fr w.heap.size [] w w3 := Fr.call' (k := hf3') (h := hf2) (hS := by simp)
  clear hcur hb3' hf3' hs3' hb2 hf2
  dsimp only
  go_wp2_with fail
  refine (put_any _ _ _ cur3 [] _ _ _ _ hb3 (by omega) (by omega) (by omega) (by omega) (by omega) (by omega) (by omega)).mono ?_
  rintro e w4 ⟨rfl, hb4', hf4', hs4'⟩
  obtain ⟨cur4, hcur⟩ : ∃ x, x = splice cur3 4 (be4 records.toNat) := ⟨_, rfl⟩
  have hb4 : Blk w4 w.heap.size 5 (byts cur4 ++ []) := by
    simp only [Int.reduceToNat, lowB_four] at hb4'
    rw [← hcur] at hb4'
    exact hb4'
  have hl4 : cur4.length = 8 := by rw [hcur, length_splice _ _ _ (by rw [hl3]; exact (by decide : 4 + 4 ≤ 8))]; exact hl3
  have HC4 := hid hcur
  have hf4 : Fr w.heap.size [] w w4 := Fr.call' (k := hf4') (h := hf3) (hS := by simp)
  clear hcur hb4' hf4' hs4' hb3 hf3
  have HH : Hid (cur4 = hdBytes pages.toNat used.toNat records.toNat) := by
    show _ = _
    rw [HC4.out, HC3.out, HC2.out, HC1.out]
    rfl
  have HP : Hid (hdPage pages used records = pgMade 1 (0 : Int).toNat (0 : Int).toNat cur4) := by show _ = _; rw [hdPage, if_pos HM.out, HH.out]; rfl
  have hpl : (pgMade 1 (0 : Int).toNat (0 : Int).toNat cur4).length = 1024 := pgMade_length _ _ _ _ (by omega)
  have HPL := hid hpl
  clear hpl
  rw [List.append_nil] at hb4
  have hS := hb4.sl_all 8 (by rw [byts_length]; exact hl4) (by omega)
  dsimp only
  go_wp2_with (go_at_call 33; refine (refWhole_any _ 1 rfl _ _ (by omega) (by omega) (by omega) (by omega) _ _ _ _ _ trivial hS (by omega)).mono ?_; rintro e w' ⟨rfl, hb, hf, hs⟩)
  go_ret2
  refine ⟨some ⟨w4.heap.size, 0, none⟩, 1024, 1024, rfl, ?_, Fr.call' (k := hf) (h := hf4) (hS := by simp)⟩
  rw [HP.out]
  exact Ow.of_blk hb hf4.size _ (by rw [byts_length]; exact HPL.out) (by omega)

end Go.Proofs.YtipmfbpomhcfcaaDoor
