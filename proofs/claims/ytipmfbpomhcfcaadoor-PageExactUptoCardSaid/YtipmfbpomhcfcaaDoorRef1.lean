/- The walks of the document's small functions: the checksum bit by bit, numbers put and read, zeros, what a head may say. -/
import Derived.Test.YtipmfbpomhcfcaaDoorPgPlain
import Derived.Test.YtipmfbpomhcfcaaDoorCrcBits
namespace Go.Le
open Go
theorem and1_u32 (x : BitVec 32) : bits .and .u32 (x.toNat : Int) 1 = if x.getLsbD 0 = true then 1 else 0 := by
  unfold bits
  rw [ofInt_u32]
  have e : BitVec.ofInt IntKind.u32.bits (1 : Int) = (1#32 : BitVec 32) := rfl
  rw [e]
  show IntKind.u32.wrap (((x &&& 1#32).toNat : Nat) : Int) = _
  rw [u32_wrap, BitVec.toNat_and]
  show (((x.toNat &&& 1) % 4294967296 : Nat) : Int) = _
  rw [Nat.and_one_is_mod]
  have h : x.getLsbD 0 = decide (x.toNat % 2 = 1) := by
    rw [BitVec.getLsbD, Nat.testBit_zero]
  rw [h]
  by_cases hh : x.toNat % 2 = 1
  · simp [hh]
  · have : x.toNat % 2 = 0 := by omega
    simp [this]
theorem shr1_u32 (x : BitVec 32) : (x.toNat : Int) / (2 : Int) = ((x >>> 1).toNat : Int) := by
  rw [BitVec.toNat_ushiftRight, Nat.shiftRight_eq_div_pow]
  omega
/-- the low bytes of a number, the highest of them first -/
def lowB : Nat → Nat → List UInt8
  | 0, _ => []
  | j + 1, v => UInt8.ofNat (v / 256 ^ j) :: lowB j v
theorem lowB_length : ∀ j v, (lowB j v).length = j
  | 0, _ => rfl
  | j + 1, v => by simp [lowB, lowB_length j v]
theorem lowB_two (v : Nat) : lowB 2 v = be2 v := by simp [lowB, be2]
theorem lowB_four (v : Nat) : lowB 4 v = be4 v := by
  simp only [lowB, be4, be2, List.cons_append, List.nil_append, Nat.div_div_eq_div_mul]
  simp
theorem splice_step {α : Type} (L cs : List α) (x : α) (p : Nat) (h : p + 1 + cs.length ≤ L.length) : (splice L (p + 1) cs).set p x = splice L p (x :: cs) := by
  unfold splice
  have hp : p < (L.take (p + 1)).length := by rw [List.length_take]; omega
  rw [List.set_append, if_pos hp]
  have e : (L.take (p + 1)).set p x = L.take p ++ [x] := by
    rw [List.take_succ_eq_append_getElem (by omega), List.set_append]
    have : (L.take p).length = p := by rw [List.length_take]; omega
    rw [if_neg (by omega), this]
    simp
  rw [e]
  simp only [List.append_assoc, List.cons_append, List.nil_append, List.length_cons]
  rw [show p + (cs.length + 1) = p + 1 + cs.length from by omega]
end Go.Le
namespace Go.Proofs.YtipmfbpomhcfcaaDoor
open Go Go.RowKit Go.Le

set_option maxHeartbeats 1000000 in
theorem refSum_any (a : Option Addr) (n c : Nat) (l : List UInt8) (w : World) (h : Sl w a n c (byts l)) :
    Calls Tryd.prog 19 #[.slice a n c] w fun e w' => e = .returned (.int .u32 ((crc l).toNat : Int)) ∧ w = w' := by
  have hle := h.le
  have hcap := h.cap
  have hlen := h.len
  rw [byts_length] at hlen
  have HL := hid hlen
  clear hlen
  go_enter Tryd.func19, Tryd.ntmps19
  go_wp2
  go_loop [3, 4] (fun x i => ∃ k : Nat, k ≤ n ∧ i = .int .i64 k ∧ x = .int .u32 ((crcRun 0xffffffff#32 (l.take k)).toNat : Int)) (fun _ i => n - (intOf i).toNat)
  case atStart => exact ⟨0, by omega, rfl, by simp [crcRun]⟩
  case round =>
    obtain ⟨k, hk, rfl, rfl⟩ := hrel
    by_cases hlt : k < n
    · obtain ⟨b, o, rfl⟩ := h.addr (by omega)
      have hc := h.at k hlt
      simp only [byts, List.getElem_map, byt] at hc
      have hlk : k < l.length := by rw [HL.out]; exact hlt
      obtain ⟨x, hx⟩ : ∃ x, x = crcRun 0xffffffff#32 (l.take k) := ⟨_, rfl⟩
      rw [← hx]
      have hnext : Hid (crcRun 0xffffffff#32 (l.take (k + 1)) = shN 8 (x ^^^ wide (l[k]'hlk))) := by
        show _ = _
        rw [crcRun_take _ _ _ hlk, ← hx, crcByte_shN]
      clear hx
      generalize (l[k]'hlk) = z at *
      have hz8 := z.toNat_lt
      obtain ⟨y, hy⟩ : ∃ y, y = x ^^^ wide z := ⟨_, rfl⟩
      have e1 : bits .xor .u32 (x.toNat : Int) (z.toNat : Int) = (y.toNat : Int) := by rw [hy, ← xor_u32, wide_toNat]
      rw [← hy] at hnext
      clear hy
      go_wp2
      go_loop [3, 5] (fun x i => ∃ j : Nat, j ≤ 8 ∧ i = .int .i64 j ∧ x = .int .u32 ((shN j y).toNat : Int)) (fun _ i => 8 - (intOf i).toNat)
      case atStart => exact ⟨0, by omega, rfl, rfl⟩
      case round =>
        obtain ⟨j, hj, rfl, rfl⟩ := hrel
        by_cases hj8 : j < 8
        · obtain ⟨v, hv⟩ : ∃ v, v = shN j y := ⟨_, rfl⟩
          have hn2 : Hid (shN (j + 1) y = sh v) := by show _ = _; rw [shN_succ', hv]
          rw [← hv]
          clear hv
          have ea := and1_u32 v
          obtain ⟨v1, hv1⟩ : ∃ v1, v1 = v >>> 1 := ⟨_, rfl⟩
          have es : (v.toNat : Int) / 2 = (v1.toNat : Int) := by rw [hv1]; exact shr1_u32 v
          by_cases hb : v.getLsbD 0 = true
          · rw [if_pos hb] at ea
            have hsh : sh v = v1 ^^^ 0x82f63b78#32 := by rw [sh, if_pos hb, hv1]
            have ex : bits .xor .u32 (v1.toNat : Int) 2197175160 = ((sh v).toNat : Int) := by
              rw [hsh, ← xor_u32]; rfl
            clear hsh hb hv1
            go_wp2
            go_round
            case rel => exact ⟨j + 1, by omega, by go_num, by rw [hn2.out]⟩
            case measure => simp [intOf] <;> omega
          · rw [if_neg hb] at ea
            have hsh : Hid (sh v = v1) := by show _ = _; rw [sh, if_neg hb, hv1]
            clear hb hv1
            go_wp2
            go_round
            case rel => exact ⟨j + 1, by omega, by go_num, by rw [hn2.out, hsh.out]⟩
            case measure => simp [intOf] <;> omega
        · have hj2 : j = 8 := by omega
          subst hj2
          go_wp2
          go_round
          case rel => exact ⟨k + 1, by omega, by go_num, by rw [hnext.out]⟩
          case measure => simp [intOf] <;> omega
    · have hfin : Hid (crcRun 0xffffffff#32 (l.take k) = crcRun 0xffffffff#32 l) := by
        show _ = _
        rw [List.take_of_length_le (by rw [HL.out]; omega)]
      go_wp2
      go_ret
      refine ⟨?_, rfl⟩
      show Ending.returned (Value.int IntKind.u32 _) = _
      rw [hfin.out]
      have : (4294967295 : Int) = (((0xffffffff#32 : BitVec 32).toNat : Nat) : Int) := by decide
      rw [this, xor_u32, crc]
      congr 4
      rw [BitVec.xor_comm]
      exact BitVec.allOnes_xor

set_option maxHeartbeats 1000000 in
theorem put_any (g n c : Nat) (L : List UInt8) (R : List Value) (at' size v : Int) (w : World) (hb : Blk w g 5 (byts L ++ R)) (hn : n = L.length) (h1 : 0 ≤ at') (h2 : 1 ≤ size) (h3 : at' + size ≤ n) (h4 : n ≤ 9223372036854775807) (h5 : 0 ≤ v) (h6 : v ≤ 9223372036854775807) :
    Calls Tryd.prog 38 #[.slice (some ⟨g, 0, none⟩) n c, .int .i64 at', .int .i64 size, .int .i64 v] w fun e w' => e = .returned (.tuple #[]) ∧ Blk w' g 5 (byts (splice L at'.toNat (lowB size.toNat v.toNat)) ++ R) ∧ Fr w.heap.size [g] w w' ∧ w.heap.size ≤ w'.heap.size := by
  obtain ⟨A, rfl⟩ := Int.eq_ofNat_of_zero_le h1
  obtain ⟨S, rfl⟩ := Int.eq_ofNat_of_zero_le (show 0 ≤ size by omega)
  obtain ⟨V, rfl⟩ := Int.eq_ofNat_of_zero_le h5
  simp only [Int.toNat_natCast]
  have HN := hid hn
  clear hn
  have hS : S ≤ n := by omega
  go_enter Tryd.func38, Tryd.ntmps38
  go_wp2
  go_loopw [3, 8] (fun x i wr => ∃ j : Nat, j ≤ S ∧ i = .int .i64 ((S : Int) - 1 - j) ∧ x = .int .i64 (V / 256 ^ j : Nat) ∧ Blk wr g 5 (byts (splice L (A + S - j) (lowB j V)) ++ R) ∧ Fr w.heap.size [g] w wr) (fun _ i _ => (intOf i + 1).toNat)
  case atStart => exact ⟨0, by omega, by simp, by simp, by simpa [splice, lowB] using hb, Fr.refl _ _ _⟩
  case round =>
    obtain ⟨j, hj, rfl, rfl, hbj, hfj⟩ := hrel
    by_cases hjS : j < S
    · obtain ⟨p, hp⟩ : ∃ p, p = A + S - 1 - j := ⟨_, rfl⟩
      obtain ⟨q, hq⟩ : ∃ q, q = S - 1 - j := ⟨_, rfl⟩
      have e0 : (S : Int) - 1 - (j : Int) = (q : Int) := by omega
      obtain ⟨X, hX⟩ : ∃ X, X = V / 256 ^ j := ⟨_, rfl⟩
      rw [e0, ← hX]
      have hXV : X ≤ V := by rw [hX]; exact Nat.div_le_self _ _
      have e1 : IntKind.i64.wrap ((A : Int) + (q : Int)) = (p : Int) := by rw [IntWalk.i64_in _ (by omega)]; omega
      have e2 : (A : Int) + (q : Int) = (p : Int) := by omega
      have hpn : (p : Int) < (n : Int) := by omega
      have hcell : ∃ u, wr.cell? ⟨g, p, none⟩ = some u := by
        rw [hbj.cell p]
        exact ⟨_, List.getElem?_eq_getElem (by rw [List.length_append, byts_length, length_splice _ _ _ (by rw [lowB_length, ← HN.out]; omega), ← HN.out]; omega)⟩
      obtain ⟨u, hcell⟩ := hcell
      have hfro := hbj.frozen p
      have hnext := hbj.setCell p (byt (UInt8.ofNat X))
      have hset : Hid ((byts (splice L (A + S - j) (lowB j V)) ++ R).set p (byt (UInt8.ofNat X)) = byts (splice L (A + S - (j + 1)) (lowB (j + 1) V)) ++ R) := by
        show _ = _
        have hl := length_splice L (A + S - j) (lowB j V) (by rw [lowB_length, ← HN.out]; omega)
        rw [List.set_append, if_pos (by rw [byts_length, hl, ← HN.out]; omega)]
        congr 1
        rw [byts, byts, ← List.map_set, show A + S - j = p + 1 from by omega, splice_step _ _ _ _ (by rw [lowB_length, ← HN.out]; omega), show A + S - (j + 1) = p from by omega, lowB, hX]
      have hfr2 : Fr w.heap.size [g] w (wr.setCell ⟨g, p, none⟩ (byt (UInt8.ofNat X))) := hfj.setCell (.inl (by simp)) _
      have hval : byt (UInt8.ofNat X) = .int .u8 ((X : Int) % 256) := by
        simp only [byt, UInt8.toNat_ofNat']; congr 1
      rw [hset.out] at hnext
      rw [hval] at hnext hfr2
      have HV2 : Hid (X / 256 = V / 256 ^ (j + 1)) := by show _ = _; rw [hX, Nat.div_div_eq_div_mul, Nat.pow_succ]
      have HQ := hid hq
      clear hset hval hX hq hp e0
      go_wp2
      go_roundw
      case rel => exact ⟨j + 1, by omega, by rw [show ((q : Int) - 1) = (S : Int) - 1 - ((j + 1 : Nat) : Int) from by have := HQ.out; omega], by rw [← HV2.out]; go_num, hnext, hfr2⟩
      case measure => simp [intOf] <;> omega
    · have hjj : j = S := by omega
      have HJ := hid hjj
      clear hjj
      go_wp2
      go_end0
      rw [HJ.out, show A + S - S = A from by omega] at hbj
      exact ⟨rfl, hbj, hfj, hfj.size⟩

set_option maxHeartbeats 1000000 in
theorem refNumber_any (a : Option Addr) (n c : Nat) (l : List UInt8) (at' size : Int) (w : World) (h : Sl w a n c (byts l)) (h1 : 0 ≤ at') (h2 : 0 ≤ size) (h3 : at' + size ≤ n) (h4 : size ≤ 4) :
    Calls Tryd.prog 35 #[.slice a n c, .int .i64 at', .int .i64 size] w fun e w' => e = .returned (.int .i64 (num (sub l at'.toNat (at' + size).toNat) : Nat)) ∧ w = w' := by
  obtain ⟨A, rfl⟩ := Int.eq_ofNat_of_zero_le h1
  obtain ⟨S, rfl⟩ := Int.eq_ofNat_of_zero_le h2
  have hle := h.le
  have hcap := h.cap
  have hlen := h.len
  rw [byts_length] at hlen
  have HL := hid hlen
  clear hlen
  have HE : Hid (((A : Int) + (S : Int)).toNat = A + S) := by show _ = _; omega
  rw [Int.toNat_natCast, HE.out]
  go_enter Tryd.func35, Tryd.ntmps35
  go_wp2
  go_loop [7, 8] (fun x i => ∃ k : Nat, k ≤ S ∧ i = .int .i64 k ∧ x = .int .i64 (num (sub l A (A + k)) : Nat)) (fun _ i => S - (intOf i).toNat)
  case atStart => exact ⟨0, by omega, rfl, by simp [sub, num]⟩
  case round =>
    obtain ⟨k, hk, rfl, rfl⟩ := hrel
    have hb := num_le (sub l A (A + k))
    have hb1 : 256 ^ (sub l A (A + k)).length ≤ 256 ^ 4 := Nat.pow_le_pow_right (by omega) (by simp [sub]; omega)
    have hb2 : num (sub l A (A + k)) < 4294967296 := Nat.lt_of_lt_of_le hb hb1
    clear hb hb1
    by_cases hlt : k < S
    · obtain ⟨b, o, rfl⟩ := h.addr (by omega)
      have hc := h.at (A + k) (by omega)
      simp only [byts, List.getElem_map, byt] at hc
      have hlk : A + k < l.length := by rw [HL.out]; omega
      have hnext : Hid (num (sub l A (A + (k + 1))) = num (sub l A (A + k)) * 256 + (l[A + k]'hlk).toNat) := by
        show _ = _
        rw [← num_snoc]
        congr 1
        rw [← sub_sub l A (A + k) (A + (k + 1)) (by omega) (by omega)]
        congr 1
        simp only [sub]
        rw [List.drop_take, show A + (k + 1) - (A + k) = 1 from by omega, List.drop_eq_getElem_cons hlk, List.take_succ_cons, List.take_zero]
      generalize num (sub l A (A + k)) = x at *
      generalize (l[A + k]'hlk) = z at *
      have hz := z.toNat_lt
      obtain ⟨q, hq⟩ : ∃ q, q = A + k := ⟨_, rfl⟩
      have e1 : IntKind.i64.wrap ((A : Int) + (k : Int)) = (q : Int) := by rw [IntWalk.i64_in _ (by omega)]; omega
      have e2 : (A : Int) + (k : Int) = (q : Int) := by omega
      have e3 : (q : Int) < (n : Int) := by omega
      rw [← hq] at hc
      clear hq
      go_wp2
      go_round
      case rel => exact ⟨k + 1, by omega, by go_num, by rw [hnext.out]; go_num⟩
      case measure => simp [intOf] <;> omega
    · have hkk : k = S := by omega
      subst hkk
      go_wp2
      go_ret
      exact ⟨rfl, rfl⟩

set_option maxHeartbeats 1000000 in
theorem refZeros_any (a : Option Addr) (n c : Nat) (l : List UInt8) (lo hi : Int) (w : World) (h : Sl w a n c (byts l)) (h1 : 0 ≤ lo) (h2 : lo ≤ hi) (h3 : hi ≤ n) :
    Calls Tryd.prog 36 #[.slice a n c, .int .i64 lo, .int .i64 hi] w fun e w' => e = .returned (.bool (zeros (sub l lo.toNat hi.toNat))) ∧ w = w' := by
  obtain ⟨A, rfl⟩ := Int.eq_ofNat_of_zero_le h1
  obtain ⟨S, rfl⟩ := Int.eq_ofNat_of_zero_le (show 0 ≤ hi by omega)
  simp only [Int.toNat_natCast]
  have hle := h.le
  have hcap := h.cap
  have hlen := h.len
  rw [byts_length] at hlen
  have HL := hid hlen
  clear hlen
  go_enter Tryd.func36, Tryd.ntmps36
  go_wp2
  go_loop [7] (fun i => ∃ k : Nat, A ≤ k ∧ k ≤ S ∧ i = .int .i64 k ∧ zeros (sub l A k) = true) (fun i => S - (intOf i).toNat)
  case atStart => exact ⟨A, by omega, by omega, rfl, by simp [sub, zeros]⟩
  case round =>
    obtain ⟨k, hAk, hk, rfl, hz⟩ := hrel
    have HZ := hid hz
    clear hz
    by_cases hlt : k < S
    · obtain ⟨b, o, rfl⟩ := h.addr (by omega)
      have hc := h.at k (by omega)
      simp only [byts, List.getElem_map, byt] at hc
      have hlk : k < l.length := by rw [HL.out]; omega
      have hone : sub l k (k + 1) = [l[k]'hlk] := by
        simp only [sub]
        rw [List.drop_take, show k + 1 - k = 1 from by omega, List.drop_eq_getElem_cons hlk, List.take_succ_cons, List.take_zero]
      have hnext : Hid (zeros (sub l A (k + 1)) = (l[k]'hlk == 0)) := by
        show _ = _
        rw [← sub_sub l A k (k + 1) hAk (by omega), hone, zeros, List.all_append]
        have := HZ.out
        unfold zeros at this
        rw [this]
        simp
      have hfalse : Hid ((l[k]'hlk == 0) = false → zeros (sub l A S) = false) := by
        intro hf
        rw [← sub_sub l A (k + 1) S (by omega) (by omega), zeros, List.all_append]
        have := hnext.out
        unfold zeros at this
        rw [this, hf]
        simp
      clear hone
      generalize (l[k]'hlk) = z at *
      by_cases hz0 : z = 0
      · subst hz0
        go_wp2
        go_round
        case rel => exact ⟨k + 1, by omega, by omega, by go_num, by rw [hnext.out]; rfl⟩
        case measure => simp [intOf] <;> omega
      · have hz1 : ¬ (z.toNat : Int) = 0 := by
          intro hh
          exact hz0 (UInt8.toNat_inj.1 (by simp; omega))
        have hz2 : ((z.toNat : Int) != 0) = true := by simpa using hz1
        have hfin : Hid (zeros (sub l A S) = false) := hfalse.out (by simpa using hz0)
        go_wp2
        go_ret
        exact ⟨by rw [hfin.out]; rfl, rfl⟩
    · have hkk : k = S := by omega
      subst hkk
      go_wp2
      go_ret
      exact ⟨by rw [HZ.out]; rfl, rfl⟩
end Go.Proofs.YtipmfbpomhcfcaaDoor
