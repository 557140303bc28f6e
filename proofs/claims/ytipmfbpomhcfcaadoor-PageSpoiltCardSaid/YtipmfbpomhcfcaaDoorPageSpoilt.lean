/- The walk of the law PageSpoilt: a page, or a store's first page, in which a bit or a run of bits is turned is refused. -/
import Derived.Test.YtipmfbpomhcfcaaDoorPgLaw
import Derived.Test.YtipmfbpomhcfcaaDoorPgSpoil
namespace Go.Le
open Go
theorem head_whole (p u r : Nat) : whErr 1 (pgMade 1 0 0 (hdBytes p u r)) = 0 := by
  rw [made_whole 1 0 0 _ (by simp [hdBytes, be2, be4]), if_pos rfl]
theorem right_whole (number count : Int) (l : List UInt8) : whErr 2 (right number count l) = 0 := by
  rw [right, made_whole 2 _ _ _ (cont_length l).2, if_pos rfl]
theorem opErr_ne {asked : Int} {l : List UInt8} (h : whErr 2 l ≠ 0) : opErr asked l ≠ 0 := by rw [opErr, if_pos h]; exact h
theorem ohErr_ne {l : List UInt8} (h : whErr 1 l ≠ 0) : ohErr l ≠ 0 := by rw [ohErr, if_pos h]; exact h
theorem sl_pre {w : World} {g : Nat} {e : TypeId} {xs r : List Value} {n c : Nat} (h : Blk w g e (xs ++ r)) (hn : xs.length = n) (hc : (xs ++ r).length = c) (hm : c ≤ 9223372036854775807) : Sl w (some ⟨g, 0, none⟩) n c xs := by
  have hnc : n ≤ c := by rw [← hc, List.length_append]; omega
  have := h.sl 0 n c hnc (by omega) hm
  rw [List.drop_zero, List.take_left' hn] at this
  exact this
theorem bit_test (M j : Nat) (hM : M < 4611686018427387904) : bits .and .i64 ((1 + (M : Int)) / 2 ^ j) 1 = if (1 + M).testBit j = true then 1 else 0 := by
  have e : ((1 + (M : Int)) / 2 ^ j) = (((1 + M) / 2 ^ j : Nat) : Int) := by
    rw [Int.natCast_ediv]; simp
  have hlt : (1 + M) / 2 ^ j < 9223372036854775808 := Nat.lt_of_le_of_lt (Nat.div_le_self _ _) (by omega)
  rw [e]
  unfold bits
  have a1 : BitVec.ofInt IntKind.i64.bits (((1 + M) / 2 ^ j : Nat) : Int) = BitVec.ofNat 64 ((1 + M) / 2 ^ j) := by show BitVec.ofInt 64 _ = _; rw [BitVec.ofInt_natCast]
  have a2 : BitVec.ofInt IntKind.i64.bits (1 : Int) = BitVec.ofNat 64 1 := rfl
  rw [a1, a2]
  show IntKind.i64.wrap (((BitVec.ofNat 64 ((1 + M) / 2 ^ j) &&& BitVec.ofNat 64 1).toNat : Nat) : Int) = _
  rw [BitVec.toNat_and, BitVec.toNat_ofNat, BitVec.toNat_ofNat, Nat.mod_eq_of_lt (by omega), Nat.mod_eq_of_lt (by omega), Nat.and_one_is_mod, Nat.testBit_eq_decide_div_mod_eq, IntKind.wrap_i64]
  by_cases h : (1 + M) / 2 ^ j % 2 = 1
  · simp [h]
  · have : (1 + M) / 2 ^ j % 2 = 0 := by omega
    simp [this]
theorem xor_u8 (x y : Nat) (hx : x < 256) (hy : y < 256) : bits .xor .u8 (x : Int) (y : Int) = ((x ^^^ y : Nat) : Int) := by
  have hxy : x ^^^ y < 2 ^ 8 := Nat.xor_lt_two_pow (by omega) (by omega)
  unfold bits
  have a1 : BitVec.ofInt IntKind.u8.bits (x : Int) = BitVec.ofNat 8 x := by show BitVec.ofInt 8 _ = _; rw [BitVec.ofInt_natCast]
  have a2 : BitVec.ofInt IntKind.u8.bits (y : Int) = BitVec.ofNat 8 y := by show BitVec.ofInt 8 _ = _; rw [BitVec.ofInt_natCast]
  rw [a1, a2]
  show IntKind.u8.wrap (((BitVec.ofNat 8 x ^^^ BitVec.ofNat 8 y).toNat : Nat) : Int) = _
  rw [BitVec.toNat_xor, BitVec.toNat_ofNat, BitVec.toNat_ofNat, Nat.mod_eq_of_lt (by omega), Nat.mod_eq_of_lt (by omega)]
  simp [IntKind.wrap, IntKind.bits, IntKind.signed]
  omega
theorem flip_val (b : UInt8) (r : Nat) (hr : r < 8) : Value.int .u8 (bits .xor .u8 (b.toNat : Int) ((2 : Int) ^ r % 256)) = byt (flipB b r) := by
  have hp : (2 : Nat) ^ r < 256 := by
    have := Nat.pow_lt_pow_right (a := 2) (by omega) hr
    simpa using this
  have e : ((2 : Int) ^ r % 256) = ((2 ^ r : Nat) : Int) := by
    rw [Int.emod_eq_of_lt]
    · simp
    · exact Int.pow_nonneg (by omega)
    · have : ((2 ^ r : Nat) : Int) < 256 := by omega
      simpa using this
  rw [e, xor_u8 _ _ b.toNat_lt hp, byt, flipB_toNat b r hr]
theorem flip_blk {w : World} {g : Nat} {e : TypeId} {B : List UInt8} {r : List Value} (hb : Blk w g e (byts B ++ r)) (K : Nat) (hK : K / 8 < B.length) :
    Blk (w.setCell ⟨g, K / 8, none⟩ (.int .u8 (bits .xor .u8 ((B.getD (K / 8) 0).toNat : Int) ((2 : Int) ^ (K % 8) % 256)))) g e (byts (flip B K) ++ r) := by
  rw [flip_val _ _ (Nat.mod_lt _ (by omega))]
  have := hb.setCell (K / 8) (byt (flipB (B.getD (K / 8) 0) (K % 8)))
  rw [List.set_append, if_pos (by rw [byts_length]; exact hK)] at this
  have e : (byts B).set (K / 8) (byt (flipB (B.getD (K / 8) 0) (K % 8))) = byts (flip B K) := by
    rw [flip, byts, byts, List.map_set]
  rw [e] at this
  exact this
theorem blk_byte {w : World} {g : Nat} {e : TypeId} {B : List UInt8} {r : List Value} (hb : Blk w g e (byts B ++ r)) (d : Nat) (hd : d < B.length) : w.cell? ⟨g, d, none⟩ = some (.int .u8 ((B.getD d 0).toNat : Int)) := by
  rw [hb.cell d, List.getElem?_append_left (by rw [byts_length]; exact hd)]
  simp [byts, byt, hd]
end Go.Le
namespace Go.Proofs.YtipmfbpomhcfcaaDoor
open Go Go.RowKit Go.Le

set_option maxRecDepth 100000 in
set_option maxHeartbeats 4000000 in
theorem PageSpoilt_walk (number count at' mask : Int) (a : Option Addr) (m c : Nat) (l : List UInt8) (w : World) (ht : Tabled w) (h : Sl w a m c (byts l)) (n2 : -9223372036854775808 ≤ number) (n3 : number ≤ 9223372036854775807) (c2 : -9223372036854775808 ≤ count) (c3 : count ≤ 9223372036854775807) (a2 : -9223372036854775808 ≤ at') (a3 : at' ≤ 9223372036854775807) (m2 : -9223372036854775808 ≤ mask) (m3 : mask ≤ 9223372036854775807) :
    Calls Tryd.prog 7 #[.int .i64 number, .int .i64 count, .slice a m c, .int .i64 at', .int .i64 mask] w fun e w' => e = .returned (.bool true) ∧ Fr w.heap.size [] w w' := by
  have hle := h.le
  have hcap := h.cap
  have HT := hid ht
  have H := hid h
  have PW := hid (right_whole number count l)
  have PL := hid (right_length number count l)
  have hm : mayB 250 249 (count % 16318216) = true := by simp [mayB]; omega
  have HW : Hid (whErr 1 (hdPage 250 249 (count % 16318216)) = 0) := by show _ = _; rw [hdPage, if_pos hm]; exact head_whole _ _ _
  have HL : Hid ((hdPage 250 249 (count % 16318216)).length = 1024) := by show _ = _; rw [hdPage, if_pos hm]; exact pgMade_length _ _ _ _ (by simp [hdBytes, be2, be4])
  have HM := hid hm
  have hcl := cont_length l
  have hN : ((1 + number % 249).toNat : Int) = 1 + number % 249 := by omega
  have PE : Hid (opErr (1 + number % 249) (right number count l) = 0) := by
    show _ = _; rw [right, made_open _ _ _ (by omega) (by omega) hcl, hN, if_pos rfl]
  have HE : Hid (ohErr (hdPage 250 249 (count % 16318216)) = 0) := by
    have := (head_open 250 249 (count % 16318216).toNat (by simp [mayB]; omega)).1
    show _ = _; rw [hdPage, if_pos hm]; exact this
  clear ht h hm hcl hN
  generalize hB : right number count l = B at *
  go_enter Tryd.func7, Tryd.ntmps7
  go_wp2_with (first | (go_at_call 15; refine (lawMade_any _ _ _ _ _ l _ HT.out H.out n2 n3 c2 c3).mono ?_; rintro e w1 ⟨a1, c1, rfl, how1, hf1⟩) | (go_at_call 9; refine (rest_any _ _ _ (by omega) (by omega) (by omega) (by omega)).mono ?_; rintro e w' ⟨rfl, rfl⟩))
  rw [hB] at how1
  clear hB
  have HT1 := hid (HT.out.ext hf1)
  refine (Head_any _ _ _ _ HT1.out).mono ?_
  rintro e w5 ⟨a5, k5, c5, rfl, how5, hf5⟩
  rw [HM.out, if_pos rfl]
  generalize hH : hdPage 250 249 (count % 16318216) = Hd at *
  clear hH
  have hk5 := how5.sl.len
  rw [byts_length, HL.out] at hk5
  subst hk5
  have hf5' : Fr w.heap.size [] w w5 := Fr.call' (k := hf5) (h := (by repeat (first | exact Fr.refl _ _ _ | assumption | apply Fr.drew | (refine Fr.drewN ?_ _) | (refine Fr.alloc ?_ (by first | omega | (simp; done) | (simp; omega)) _) | (refine Fr.setCell ?_ (by first | (left; simp; done) | (right; simp; done) | (right; simp; omega)) _)))) (hS := by simp <;> omega)
  have HT5 := hid (HT.out.ext hf5')
  have S1 := hid (how1.sl.ext hf5)
  have S5 := hid how5.sl
  clear hf1 how1 hf5 how5 HT1
  dsimp only
  go_wp2_with (go_at_call 9; refine (rest_any _ _ _ (by omega) (by omega) (by omega) (by omega)).mono ?_; rintro e w' ⟨rfl, rfl⟩)
  obtain ⟨i, hi, hz, hsz, hby⟩ := info_parts infoU8
  have JI := hid hi
  have JZ := hid hz
  have JS := hid hsz
  have JB := hid hby
  clear hi hz hsz hby
  go_loopw [16] (fun i wr => ∃ k : Nat, k ≤ 2 ∧ i = .int .i64 k ∧ Fr w5.heap.size [] w5 wr) (fun i _ => 2 - (intOf i).toNat)
  case atStart => exact ⟨0, by omega, rfl, Fr.refl _ _ _⟩
  case round =>
    obtain ⟨k, hk, rfl, hfr⟩ := hrel
    have HFR := hid hfr
    have R1 := hid (S1.out.ext hfr)
    have R5 := hid (S5.out.ext hfr)
    have RT := hid (HT5.out.ext hfr)
    have rs := hfr.size
    clear hfr
    have ways : k = 0 ∨ k = 1 ∨ k = 2 := by omega
    rcases ways with rfl | rfl | rfl
    · -- one bit
      go_wp2_with ((with_reducible show wpList _ _ _ (Oper.mk (some 69) _ _ _ _ _ :: _) _ _); refine wpList_app (by rfl) (.const (.slice none 0 0)) (.tmp 68) 22 (by rfl) wr.heap.size 5 Tryd.underlying22 JI.out JZ.out JS.out JB.out (by rfl) (by rfl) (by rfl) (Ow.nil _ _ _) R1.out (byts_oneCell _) (by simp [maxLen]) (by omega) (by simp) ?_)
      intro a6 c6 w6 how6 hf6 hn6 hl6
      go_wp2_with ((with_reducible show wpList _ _ _ (Oper.mk (some 71) _ _ _ _ _ :: _) _ _); refine wpList_app (by rfl) (.const (.slice none 0 0)) (.tmp 70) 22 (by rfl) w6.heap.size 5 Tryd.underlying22 JI.out JZ.out JS.out JB.out (by rfl) (by rfl) (by rfl) (Ow.nil _ _ _) (R5.out.ext hf6) (byts_oneCell _) (by simp [maxLen]) (by omega) (by simp) ?_)
      intro a7 c7 w7 how7 hf7 hn7 hl7
      obtain ⟨g6, r6, rfl, hg6, hb6, hlen6, hcc6⟩ := how6.blk (by omega)
      obtain ⟨g7, r7, rfl, hg7, hb7, hlen7, hcc7⟩ := how7.blk (by omega)
      have hne : g6 < g7 := by have := hb6.lt; omega
      have hb6' := hb6.fr hf7 hb6.lt (by simp [blk])
      have hw7 : Fr wr.heap.size [] wr w7 := Fr.call' (k := hf7) (h := hf6) (hS := by simp [blk])
      clear how6 how7 hf6 hf7 hn6 hn7 hl6 hl7 hb6
      obtain ⟨K, hK⟩ : ∃ K : Nat, at' % 8192 = (K : Int) := ⟨(at' % 8192).toNat, by omega⟩
      have hK8 : K < 8192 := by omega
      have HK := hid hK
      clear hK
      go_wp2_with (go_at_call 9; refine (rest_any _ _ _ (by omega) (by omega) (by omega) (by omega)).mono ?_; rintro e w' ⟨rfl, rfl⟩; rw [HK.out]; dsimp only)
      obtain ⟨d, hd⟩ : ∃ d, d = K / 8 := ⟨_, rfl⟩
      obtain ⟨r, hr⟩ : ∃ r, r = K % 8 := ⟨_, rfl⟩
      have q1 : (K : Int).tdiv 8 = (d : Int) := by rw [Int.tdiv_eq_ediv_of_nonneg (by omega)]; omega
      have q2 : (K : Int) / 8 = (d : Int) := by omega
      have q3 : (K : Int).tmod 8 = (r : Int) := by rw [Int.tmod_eq_emod_of_nonneg (by omega)]; omega
      have q4 : (K : Int) % 8 = (r : Int) := by omega
      have q5 : IntKind.i64.wrap (d : Int) = (d : Int) := IntWalk.i64_in _ (by omega)
      have q6 : (0 : Int) ≤ (d : Int) := by omega
      have q7 : (d : Int) < 1024 := by omega
      have q8 : (0 : Int) ≤ (r : Int) := by omega
      have q9 : (r : Int) ≤ 8 := by omega
      have HD := hid hd
      have HR := hid hr
      have hr8 : r < 8 := by omega
      obtain ⟨z6, hz6⟩ : ∃ z, z = B.getD d 0 := ⟨_, rfl⟩
      obtain ⟨z7, hz7⟩ : ∃ z, z = Hd.getD d 0 := ⟨_, rfl⟩
      have x6 : w7.cell? ⟨g6, d, none⟩ = some (.int .u8 (z6.toNat : Int)) := by
        rw [blk_byte hb6' d (by rw [PL.out]; omega), hz6]
      have f6 : w7.frozen? ⟨g6, d, none⟩ = false := hb6'.frozen _
      have y6 : Blk (w7.setCell ⟨g6, d, none⟩ (.int .u8 (bits .xor .u8 (z6.toNat : Int) ((2 : Int) ^ r % 256)))) g6 5 (byts (flip B K) ++ r6) := by
        rw [hz6, hd, hr]; exact flip_blk hb6' K (by rw [PL.out]; omega)
      have y7 := hb7.setCell_other ⟨g6, d, none⟩ (show g7 ≠ g6 by omega) (.int .u8 (bits .xor .u8 (z6.toNat : Int) ((2 : Int) ^ r % 256)))
      have hf8 : Fr wr.heap.size [] wr (w7.setCell ⟨g6, d, none⟩ (.int .u8 (bits .xor .u8 (z6.toNat : Int) ((2 : Int) ^ r % 256)))) := hw7.setCell (.inr hg6) _
      have Y6 := hid y6
      have Y7 := hid y7
      have HZ7 := hid hz7
      clear hd hr hz6 hz7 y6 y7
      go_region
      generalize hw8 : (w7.setCell ⟨g6, d, none⟩ (.int .u8 (bits .xor .u8 (z6.toNat : Int) ((2 : Int) ^ r % 256)))) = w8 at *
      clear hw8 x6 f6 hb6' hb7 hw7
      have b7 := Y7.out
      have x7 : w8.drew.cell? ⟨g7, d, none⟩ = some (.int .u8 (z7.toNat : Int)) := by
        rw [HZ7.out]; exact blk_byte b7 d (by rw [HL.out]; omega)
      have f7 : w8.drew.frozen? ⟨g7, d, none⟩ = false := b7.frozen _
      have y7 : Blk (w8.setCell ⟨g7, d, none⟩ (.int .u8 (bits .xor .u8 (z7.toNat : Int) ((2 : Int) ^ r % 256)))) g7 5 (byts (flip Hd K) ++ r7) := by
        rw [HZ7.out, HD.out, HR.out]; exact flip_blk b7 K (by rw [HL.out]; omega)
      have y6 := Y6.out.setCell_other ⟨g7, d, none⟩ (show g6 ≠ g7 by omega) (.int .u8 (bits .xor .u8 (z7.toNat : Int) ((2 : Int) ^ r % 256)))
      have hf9 : Fr wr.heap.size [] wr (w8.setCell ⟨g7, d, none⟩ (.int .u8 (bits .xor .u8 (z7.toNat : Int) ((2 : Int) ^ r % 256)))) := hf8.setCell (.inr (by show _ ≤ g7; omega)) _
      have X6 := hid y6
      have X7 := hid y7
      clear y6 y7 b7 Y6 Y7
      go_wp2
      go_region
      have p6 : Blk ((w8.setCell ⟨g7, d, none⟩ (.int .u8 (bits .xor .u8 (z7.toNat : Int) ((2 : Int) ^ r % 256)))).drew.drew) g6 5 (byts (flip B K) ++ r6) := X6.out.drew.drew
      have p7 : Blk ((w8.setCell ⟨g7, d, none⟩ (.int .u8 (bits .xor .u8 (z7.toNat : Int) ((2 : Int) ^ r % 256)))).drew.drew) g7 5 (byts (flip Hd K) ++ r7) := X7.out.drew.drew
      have pf : Fr wr.heap.size [] wr ((w8.setCell ⟨g7, d, none⟩ (.int .u8 (bits .xor .u8 (z7.toNat : Int) ((2 : Int) ^ r % 256)))).drew.drew) := hf9.drew.drew
      generalize ((w8.setCell ⟨g7, d, none⟩ (.int .u8 (bits .xor .u8 (z7.toNat : Int) ((2 : Int) ^ r % 256)))).drew.drew) = w10 at *
      obtain ⟨B', hB'⟩ : ∃ x, x = flip B K := ⟨_, rfl⟩
      obtain ⟨H', hH'⟩ : ∃ x, x = flip Hd K := ⟨_, rfl⟩
      rw [← hB'] at p6
      rw [← hH'] at p7
      have E6 : Hid (∀ asked, opErr asked B' ≠ 0) := fun asked => opErr_ne (by rw [hB']; exact spoilt_bit PW.out K hK8)
      have E7 : Hid (ohErr H' ≠ 0) := ohErr_ne (by rw [hH']; exact spoilt_bit HW.out K hK8)
      have l6 : Hid (B'.length = 1024) := by show _ = _; rw [hB', flip_length]; exact PL.out
      have l7 : Hid (H'.length = 1024) := by show _ = _; rw [hH', flip_length]; exact HL.out
      clear hB' hH'
      have SB := hid (sl_pre p6 (n := 1024) (c := c6) (by rw [byts_length]; exact l6.out) (by rw [List.length_append, byts_length, l6.out]; rw [List.length_append, byts_length, PL.out] at hlen6; exact hlen6) hcc6)
      have SH := hid (sl_pre p7 (n := 1024) (c := c7) (by rw [byts_length]; exact l7.out) (by rw [List.length_append, byts_length, l7.out]; rw [List.length_append, byts_length, HL.out] at hlen7; exact hlen7) hcc7)
      have T10 := hid (RT.out.ext pf)
      go_wp2_with fail
      refine (Open_any (1 + number % 249) _ _ _ B' _ T10.out SB.out).mono ?_
      rintro e w11 ⟨a11, k11, c11, rfl, how11, hf11⟩
      have pf11 : Fr wr.heap.size [] wr w11 := Fr.call' (k := hf11) (h := (by repeat (first | exact Fr.refl _ _ _ | assumption | apply Fr.drew | (refine Fr.drewN ?_ _) | (refine Fr.alloc ?_ (by first | omega | (simp; done) | (simp; omega)) _) | (refine Fr.setCell ?_ (by first | (left; simp; done) | (right; simp; done) | (right; simp; omega)) _)))) (hS := by simp <;> omega)
      have T11 := hid (RT.out.ext pf11)
      have b11 : (opErr (1 + number % 249) B' == 0) = false := by simpa using E6.out _
      generalize opErr (1 + number % 249) B' = y1 at *
      generalize opCount (1 + number % 249) B' = y2 at *
      dsimp only
      go_wp2_with fail
      refine (OpenHead_any _ _ _ H' _ T11.out (SH.out.ext hf11)).mono ?_
      rintro e w12 ⟨rfl, hf12⟩
      have pf12 : Fr wr.heap.size [] wr w12 := Fr.call' (k := hf12) (h := (by repeat (first | exact Fr.refl _ _ _ | assumption | apply Fr.drew | (refine Fr.drewN ?_ _) | (refine Fr.alloc ?_ (by first | omega | (simp; done) | (simp; omega)) _) | (refine Fr.setCell ?_ (by first | (left; simp; done) | (right; simp; done) | (right; simp; omega)) _)))) (hS := by simp <;> omega)
      have pf13 : Fr w5.heap.size [] w5 w12 := Fr.call' (k := pf12) (h := HFR.out) (hS := by simp)
      have b12 : (ohErr H' == 0) = false := by simpa using E7.out
      generalize ohErr H' = y3 at *
      generalize ohOut H' (num (sub H' 16 18)) = y4
      generalize ohOut H' (num (sub H' 18 20)) = y5
      generalize ohOut H' (num (sub H' 20 24)) = y6
      dsimp only
      go_wp2
      go_roundw
      case rel => exact ⟨1, by omega, by go_num, pf13⟩
      case measure => simp [intOf]
    · -- a run of up to 32 bits
      obtain ⟨wo, hwo⟩ : ∃ wo : World, wo = wr := ⟨_, rfl⟩
      subst hwo
      go_wp2_with ((with_reducible show wpList _ _ _ (Oper.mk (some 69) _ _ _ _ _ :: _) _ _); refine wpList_app (by rfl) (.const (.slice none 0 0)) (.tmp 68) 22 (by rfl) wo.heap.size 5 Tryd.underlying22 JI.out JZ.out JS.out JB.out (by rfl) (by rfl) (by rfl) (Ow.nil _ _ _) R1.out (byts_oneCell _) (by simp [maxLen]) (by omega) (by simp) ?_)
      intro a6 c6 w6 how6 hf6 hn6 hl6
      go_wp2_with ((with_reducible show wpList _ _ _ (Oper.mk (some 71) _ _ _ _ _ :: _) _ _); refine wpList_app (by rfl) (.const (.slice none 0 0)) (.tmp 70) 22 (by rfl) w6.heap.size 5 Tryd.underlying22 JI.out JZ.out JS.out JB.out (by rfl) (by rfl) (by rfl) (Ow.nil _ _ _) (R5.out.ext hf6) (byts_oneCell _) (by simp [maxLen]) (by omega) (by simp) ?_)
      intro a7 c7 w7 how7 hf7 hn7 hl7
      obtain ⟨g6, r6, rfl, hg6, hb6, hlen6, hcc6⟩ := how6.blk (by omega)
      obtain ⟨g7, r7, rfl, hg7, hb7, hlen7, hcc7⟩ := how7.blk (by omega)
      have hne : g6 < g7 := by have := hb6.lt; omega
      have hb6' := hb6.fr hf7 hb6.lt (by simp [blk])
      have hw7 : Fr wo.heap.size [] wo w7 := Fr.call' (k := hf7) (h := hf6) (hS := by simp [blk])
      have LEN6 := hid hlen6
      have LEN7 := hid hlen7
      clear how6 how7 hf6 hf7 hn6 hn7 hl6 hl7 hb6 hlen6 hlen7
      obtain ⟨M0, hM⟩ : ∃ M0 : Nat, mask % 4294967295 = (M0 : Int) := ⟨(mask % 4294967295).toNat, by omega⟩
      have hM8 : M0 < 4294967295 := by omega
      have HMM := hid hM
      obtain ⟨K0, hK⟩ : ∃ K : Nat, at' % 8161 = (K : Int) := ⟨(at' % 8161).toNat, by omega⟩
      have hK8 : K0 < 8161 := by omega
      have HK := hid hK
      clear hK hM
      have kways : ((K0 : Int) / 8 ≤ 15 ∧ 12 ≤ ((K0 : Int) + 31) / 8) ∨ ((K0 : Int) / 8 ≤ 15 ∧ ¬ 12 ≤ ((K0 : Int) + 31) / 8 ∧ K0 + 31 < 96) ∨ (¬ (K0 : Int) / 8 ≤ 15 ∧ 128 ≤ K0) := by omega
      have fin : ∃ K : Nat, K + 32 ≤ 8192 ∧ (128 ≤ K ∨ K + 31 < 96) ∧ (((K0 : Int) / 8 ≤ 15 ∧ 12 ≤ ((K0 : Int) + 31) / 8 ∧ (128 : Int) = K) ∨ ((K0 : Int) / 8 ≤ 15 ∧ ¬ 12 ≤ ((K0 : Int) + 31) / 8 ∧ K0 = K) ∨ (¬ (K0 : Int) / 8 ≤ 15 ∧ K0 = K)) := by
        rcases kways with ⟨e1, e2⟩ | ⟨e1, e2, e3⟩ | ⟨e1, e2⟩
        · exact ⟨128, by omega, by omega, .inl ⟨e1, e2, rfl⟩⟩
        · exact ⟨K0, by omega, by omega, .inr (.inl ⟨e1, e2, rfl⟩)⟩
        · exact ⟨K0, by omega, by omega, .inr (.inr ⟨e1, rfl⟩)⟩
      clear kways
      obtain ⟨K, hk1, hk2, kw⟩ := fin
      have HK2 := hid hk2
      clear hk2
      rcases kw with ⟨e1, e2, e3⟩ | ⟨e1, e2, e3⟩ | ⟨e1, e3⟩
      all_goals
        have E3 := hid e3
        clear e3
        go_wp2_with (go_at_call 9; refine (rest_any _ _ _ (by omega) (by omega) (by omega) (by omega)).mono ?_; rintro e w' ⟨rfl, rfl⟩; first | rw [HMM.out] | rw [HK.out]; dsimp only)
        rw [E3.out]
        go_loopw [22] (fun i wi => ∃ j : Nat, j ≤ 32 ∧ i = .int .i64 j ∧ Blk wi g6 5 (byts (burst B K (1 + M0) j) ++ r6) ∧ Blk wi g7 5 (byts (burst Hd K (1 + M0) j) ++ r7) ∧ Fr wo.heap.size [] wo wi) (fun i _ => 32 - (intOf i).toNat)
        case atStart => exact ⟨0, by omega, rfl, hb6', hb7, hw7⟩
        case round =>
          obtain ⟨j, hj, rfl, i6, i7, iw⟩ := hrel
          by_cases hj32 : j < 32
          · obtain ⟨wi, hwi⟩ : ∃ wi : World, wi = wr := ⟨_, rfl⟩
            subst hwi
            have A1 : IntKind.i64.wrap ((K : Int) + (j : Int)) = (K : Int) + (j : Int) := IntWalk.i64_in _ (by omega)
            obtain ⟨d, hd⟩ : ∃ d, d = (K + j) / 8 := ⟨_, rfl⟩
            obtain ⟨r, hr⟩ : ∃ r, r = (K + j) % 8 := ⟨_, rfl⟩
            have q1 : ((K : Int) + (j : Int)).tdiv 8 = (d : Int) := by rw [Int.tdiv_eq_ediv_of_nonneg (by omega)]; omega
            have q2 : ((K : Int) + (j : Int)) / 8 = (d : Int) := by omega
            have q3 : ((K : Int) + (j : Int)).tmod 8 = (r : Int) := by rw [Int.tmod_eq_emod_of_nonneg (by omega)]; omega
            have q4 : ((K : Int) + (j : Int)) % 8 = (r : Int) := by omega
            have q5 : IntKind.i64.wrap (d : Int) = (d : Int) := IntWalk.i64_in _ (by omega)
            have q6 : (0 : Int) ≤ (d : Int) := by omega
            have q7 : (d : Int) < 1024 := by omega
            have q8 : (0 : Int) ≤ (r : Int) := by omega
            have q9 : (r : Int) ≤ 8 := by omega
            have HD := hid hd
            have HR := hid hr
            have hbt := bit_test M0 j (by omega)
            have hbl6 := burst_length B K (1 + M0) j
            have hbl7 := burst_length Hd K (1 + M0) j
            have HB6 : Hid (burst B K (1 + M0) (j + 1) = if (1 + M0).testBit j = true then flip (burst B K (1 + M0) j) (K + j) else burst B K (1 + M0) j) := rfl
            have HB7 : Hid (burst Hd K (1 + M0) (j + 1) = if (1 + M0).testBit j = true then flip (burst Hd K (1 + M0) j) (K + j) else burst Hd K (1 + M0) j) := rfl
            generalize burst B K (1 + M0) j = Bj at *
            generalize burst Hd K (1 + M0) j = Hj at *
            rw [PL.out] at hbl6
            rw [HL.out] at hbl7
            by_cases hb : (1 + M0).testBit j = true
            · rw [if_pos hb] at hbt
              have tb : (bits .and .i64 ((1 + (M0 : Int)) / 2 ^ j) 1 == 1) = true := by rw [hbt]; rfl
              rw [if_pos hb] at HB6 HB7
              obtain ⟨z6, hz6⟩ : ∃ z, z = Bj.getD d 0 := ⟨_, rfl⟩
              obtain ⟨z7, hz7⟩ : ∃ z, z = Hj.getD d 0 := ⟨_, rfl⟩
              have x6 : wi.cell? ⟨g6, d, none⟩ = some (.int .u8 (z6.toNat : Int)) := by
                rw [blk_byte i6 d (by omega), hz6]
              have f6 : wi.frozen? ⟨g6, d, none⟩ = false := i6.frozen _
              have y6 : Blk (wi.setCell ⟨g6, d, none⟩ (.int .u8 (bits .xor .u8 (z6.toNat : Int) ((2 : Int) ^ r % 256)))) g6 5 (byts (flip Bj (K + j)) ++ r6) := by
                rw [hz6, hd, hr]; exact flip_blk i6 (K + j) (by omega)
              have y7 := i7.setCell_other ⟨g6, d, none⟩ (show g7 ≠ g6 by omega) (.int .u8 (bits .xor .u8 (z6.toNat : Int) ((2 : Int) ^ r % 256)))
              have hf8 : Fr wo.heap.size [] wo (wi.setCell ⟨g6, d, none⟩ (.int .u8 (bits .xor .u8 (z6.toNat : Int) ((2 : Int) ^ r % 256)))) := iw.setCell (.inr hg6) _
              have Y6 := hid y6
              have Y7 := hid y7
              have HZ7 := hid hz7
              clear hd hr hz6 hz7 y6 y7 hbt hb
              have HBL7 := hid hbl7
              clear hbl6 hbl7
              go_wp2_with fail
              go_region
              generalize hw8 : (wi.setCell ⟨g6, d, none⟩ (.int .u8 (bits .xor .u8 (z6.toNat : Int) ((2 : Int) ^ r % 256)))) = w8 at *
              clear hw8 x6 f6 i6 i7 iw
              have b7 := Y7.out
              have x7 : w8.drew.cell? ⟨g7, d, none⟩ = some (.int .u8 (z7.toNat : Int)) := by
                rw [HZ7.out]; exact blk_byte b7 d (by rw [HBL7.out]; omega)
              have f7 : w8.drew.frozen? ⟨g7, d, none⟩ = false := b7.frozen _
              have y7 : Blk (w8.setCell ⟨g7, d, none⟩ (.int .u8 (bits .xor .u8 (z7.toNat : Int) ((2 : Int) ^ r % 256)))) g7 5 (byts (flip Hj (K + j)) ++ r7) := by
                rw [HZ7.out, HD.out, HR.out]; exact flip_blk b7 (K + j) (by rw [HBL7.out]; rw [← HD.out]; omega)
              have y6 := Y6.out.setCell_other ⟨g7, d, none⟩ (show g6 ≠ g7 by omega) (.int .u8 (bits .xor .u8 (z7.toNat : Int) ((2 : Int) ^ r % 256)))
              have hf9 : Fr wo.heap.size [] wo (w8.setCell ⟨g7, d, none⟩ (.int .u8 (bits .xor .u8 (z7.toNat : Int) ((2 : Int) ^ r % 256)))) := hf8.setCell (.inr (by show _ ≤ g7; omega)) _
              have X6 := hid y6
              have X7 := hid y7
              clear y6 y7 b7 Y6 Y7
              go_wp2
              go_region
              go_wp2
              go_roundw
              case rel => exact ⟨j + 1, by omega, by go_num, by rw [HB6.out]; exact X6.out.drew.drew, by rw [HB7.out]; exact X7.out.drew.drew, hf9.drew.drew⟩
              case measure => simp [intOf]; omega
            · rw [if_neg hb] at hbt
              have tb : (bits .and .i64 ((1 + (M0 : Int)) / 2 ^ j) 1 == 1) = false := by rw [hbt]; rfl
              rw [if_neg hb] at HB6 HB7
              have I6 := hid i6
              have I7 := hid i7
              clear hd hr hbt hb hbl6 hbl7 i6 i7
              go_wp2
              go_roundw
              case rel => exact ⟨j + 1, by omega, by go_num, by rw [HB6.out]; exact I6.out, by rw [HB7.out]; exact I7.out, iw⟩
              case measure => simp [intOf]; omega
          · have hj : j = 32 := by omega
            subst hj
            have hlen6 := LEN6.out
            have hlen7 := LEN7.out
            have SP6 := hid (spoilt_run PW.out K (1 + M0) (by omega) (by omega) hk1 HK2.out)
            have SP7 := hid (spoilt_run HW.out K (1 + M0) (by omega) (by omega) hk1 HK2.out)
            have p6 : Blk wr g6 5 (byts (burst B K (1 + M0) 32) ++ r6) := i6
            have p7 : Blk wr g7 5 (byts (burst Hd K (1 + M0) 32) ++ r7) := i7
            have pf : Fr wo.heap.size [] wo wr := iw
            obtain ⟨w10, hw10⟩ : ∃ x : World, x = wr := ⟨_, rfl⟩
            rw [← hw10] at p6 p7 pf
            rw [← hw10]
            clear hw10 i6 i7 iw
            obtain ⟨B', hB'⟩ : ∃ x, x = burst B K (1 + M0) 32 := ⟨_, rfl⟩
            obtain ⟨H', hH'⟩ : ∃ x, x = burst Hd K (1 + M0) 32 := ⟨_, rfl⟩
            rw [← hB'] at p6
            rw [← hH'] at p7
            have E6 : Hid (∀ asked, opErr asked B' ≠ 0) := fun asked => opErr_ne (by rw [hB']; exact SP6.out)
            have E7 : Hid (ohErr H' ≠ 0) := ohErr_ne (by rw [hH']; exact SP7.out)
            have l6 : Hid (B'.length = 1024) := by show _ = _; rw [hB', burst_length]; exact PL.out
            have l7 : Hid (H'.length = 1024) := by show _ = _; rw [hH', burst_length]; exact HL.out
            clear hB' hH'
            have SB := hid (sl_pre p6 (n := 1024) (c := c6) (by rw [byts_length]; exact l6.out) (by rw [List.length_append, byts_length, l6.out]; rw [List.length_append, byts_length, PL.out] at hlen6; exact hlen6) hcc6)
            have SH := hid (sl_pre p7 (n := 1024) (c := c7) (by rw [byts_length]; exact l7.out) (by rw [List.length_append, byts_length, l7.out]; rw [List.length_append, byts_length, HL.out] at hlen7; exact hlen7) hcc7)
            have T10 := hid (RT.out.ext pf)
            go_wp2_with fail
            refine (Open_any (1 + number % 249) _ _ _ B' _ T10.out SB.out).mono ?_
            rintro e w11 ⟨a11, k11, c11, rfl, how11, hf11⟩
            have pf11 : Fr wo.heap.size [] wo w11 := Fr.call' (k := hf11) (h := (by repeat (first | exact Fr.refl _ _ _ | assumption | apply Fr.drew | (refine Fr.drewN ?_ _) | (refine Fr.alloc ?_ (by first | omega | (simp; done) | (simp; omega)) _) | (refine Fr.setCell ?_ (by first | (left; simp; done) | (right; simp; done) | (right; simp; omega)) _)))) (hS := by simp <;> omega)
            have T11 := hid (RT.out.ext pf11)
            have b11 : (opErr (1 + number % 249) B' == 0) = false := by simpa using E6.out _
            generalize opErr (1 + number % 249) B' = y1 at *
            generalize opCount (1 + number % 249) B' = y2 at *
            dsimp only
            go_wp2_with fail
            refine (OpenHead_any _ _ _ H' _ T11.out (SH.out.ext hf11)).mono ?_
            rintro e w12 ⟨rfl, hf12⟩
            have pf12 : Fr wo.heap.size [] wo w12 := Fr.call' (k := hf12) (h := (by repeat (first | exact Fr.refl _ _ _ | assumption | apply Fr.drew | (refine Fr.drewN ?_ _) | (refine Fr.alloc ?_ (by first | omega | (simp; done) | (simp; omega)) _) | (refine Fr.setCell ?_ (by first | (left; simp; done) | (right; simp; done) | (right; simp; omega)) _)))) (hS := by simp <;> omega)
            have pf13 : Fr w5.heap.size [] w5 w12 := Fr.call' (k := pf12) (h := HFR.out) (hS := by simp)
            have b12 : (ohErr H' == 0) = false := by simpa using E7.out
            generalize ohErr H' = y3 at *
            generalize ohOut H' (num (sub H' 16 18)) = y4
            generalize ohOut H' (num (sub H' 18 20)) = y5
            generalize ohOut H' (num (sub H' 20 24)) = y6
            dsimp only
            go_wp2
            go_roundw
            case rel => exact ⟨2, by omega, by go_num, pf13⟩
            case measure => simp [intOf]
    · go_wp2_with fail
      refine (Open_any (1 + number % 249) _ _ _ B _ RT.out R1.out).mono ?_
      rintro e w11 ⟨a11, k11, c11, rfl, how11, hf11⟩
      have pf11 : Fr wr.heap.size [] wr w11 := hf11
      rw [PE.out]
      generalize opCount (1 + number % 249) B = y2
      dsimp only
      go_wp2_with fail
      refine (OpenHead_any _ _ _ Hd _ (RT.out.ext pf11) (R5.out.ext pf11)).mono ?_
      rintro e w12 ⟨rfl, hf12⟩
      have pf12 : Fr wr.heap.size [] wr w12 := Fr.call' (k := hf12) (h := (by repeat (first | exact Fr.refl _ _ _ | assumption | apply Fr.drew | (refine Fr.drewN ?_ _) | (refine Fr.alloc ?_ (by first | omega | (simp; done) | (simp; omega)) _) | (refine Fr.setCell ?_ (by first | (left; simp; done) | (right; simp; done) | (right; simp; omega)) _)))) (hS := by simp <;> omega)
      have pf13 : Fr w5.heap.size [] w5 w12 := Fr.call' (k := pf12) (h := HFR.out) (hS := by simp)
      have pf14 : Fr w.heap.size [] w w12 := Fr.call' (k := pf13) (h := hf5') (hS := by simp)
      rw [HE.out]
      generalize ohOut Hd (num (sub Hd 16 18)) = y4
      generalize ohOut Hd (num (sub Hd 18 20)) = y5
      generalize ohOut Hd (num (sub Hd 20 24)) = y6
      dsimp only
      go_wp2
      go_ret
      exact ⟨rfl, pf14⟩
end Go.Proofs.YtipmfbpomhcfcaaDoor
