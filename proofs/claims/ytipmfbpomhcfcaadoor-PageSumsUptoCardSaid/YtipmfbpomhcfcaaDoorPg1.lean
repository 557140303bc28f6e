/- The walks of page's small functions: numbers written and read, zeros, bytes compared. -/
import Derived.Test.YtipmfbpomhcfcaaDoorPgSum
set_option linter.unusedVariables false
set_option linter.unusedSimpArgs false
namespace Go.Le
open Go
/-- numbers, the highest byte first -/
def be2 (n : Nat) : List UInt8 := [UInt8.ofNat (n / 256), UInt8.ofNat n]
def be4 (n : Nat) : List UInt8 := be2 (n / 65536) ++ be2 n
def num (l : List UInt8) : Nat := l.foldl (fun n x => n * 256 + x.toNat) 0
/-- are all bytes zero? -/
def zeros (l : List UInt8) : Bool := l.all (· == 0)
theorem num_snoc (l : List UInt8) (x : UInt8) : num (l ++ [x]) = num l * 256 + x.toNat := by simp [num]
theorem num_take (l : List UInt8) (k : Nat) (h : k < l.length) : num (l.take (k + 1)) = num (l.take k) * 256 + l[k].toNat := by
  rw [List.take_succ_eq_append_getElem h, num_snoc]
theorem num_le' : ∀ (l : List UInt8) (a : Nat), l.foldl (fun n x => n * 256 + x.toNat) a < (a + 1) * 256 ^ l.length
  | [], a => by simp
  | x :: l, a => by
    have h := num_le' l (a * 256 + x.toNat)
    have hx := x.toNat_lt
    simp only [List.foldl_cons, List.length_cons, Nat.pow_succ]
    refine Nat.lt_of_lt_of_le h ?_
    rw [Nat.mul_comm (256 ^ l.length) 256, ← Nat.mul_assoc]
    exact Nat.mul_le_mul_right _ (by omega)
theorem num_le (l : List UInt8) : num l < 256 ^ l.length := by
  have := num_le' l 0
  simpa [num] using this
theorem be2_cells (n : Int) (h0 : 0 ≤ n) (h1 : n ≤ 4294967295) : (byts (be2 n.toNat)).toArray = #[Value.int .u8 (n / 256 % 256), Value.int .u8 (n % 256)] := by
  obtain ⟨m, rfl⟩ := Int.eq_ofNat_of_zero_le h0
  simp only [be2, byts, byt, List.map_cons, List.map_nil, Int.toNat_natCast, UInt8.toNat_ofNat']
  congr 4
theorem or_shift (m x : Nat) (hm : m * 256 < 9223372036854775808) (hx : x < 256) : bits .or .i64 ((m : Int) * 256) (x : Int) = ((m * 256 + x : Nat) : Int) := by
  have e : ((m : Int) * 256) = ((m * 256 : Nat) : Int) := by omega
  have hor : (m * 256) ||| x = m * 256 + x := by
    have := Nat.two_pow_add_eq_or_of_lt (i := 8) (b := x) (by simpa using hx) m
    rw [Nat.mul_comm] at this
    simpa using this.symm
  rw [e]
  unfold bits
  have a1 : BitVec.ofInt IntKind.i64.bits ((m * 256 : Nat) : Int) = BitVec.ofNat 64 (m * 256) := by show BitVec.ofInt 64 _ = _; rw [BitVec.ofInt_natCast]
  have a2 : BitVec.ofInt IntKind.i64.bits (x : Int) = BitVec.ofNat 64 x := by show BitVec.ofInt 64 _ = _; rw [BitVec.ofInt_natCast]
  rw [a1, a2]
  show IntKind.i64.wrap (((BitVec.ofNat 64 (m * 256) ||| BitVec.ofNat 64 x).toNat : Nat) : Int) = _
  rw [BitVec.toNat_or, BitVec.toNat_ofNat, BitVec.toNat_ofNat, Nat.mod_eq_of_lt (by omega), Nat.mod_eq_of_lt (by omega), hor, IntKind.wrap_i64]
  omega
end Go.Le
namespace Go.Proofs.YtipmfbpomhcfcaaDoor
open Go Go.RowKit Go.Le

theorem two_any (n : Int) (w : World) (h0 : 0 ≤ n) (h1 : n ≤ 4294967295) : Calls Tryd.prog 31 #[.int .i64 n] w fun e w' =>
    e = .returned (.slice (some ⟨w.heap.size, 0, none⟩) 2 2) ∧ w.alloc (.cells (byts (be2 n.toNat)).toArray 5) = w' := by
  rw [be2_cells n h0 h1]
  go_enter Tryd.func31, Tryd.ntmps31
  go_wp2
  go_ret
  exact ⟨rfl, rfl⟩

set_option maxHeartbeats 400000 in
theorem number_any (a : Option Addr) (n c : Nat) (l : List UInt8) (w : World) (h : Sl w a n c (byts l)) (hn : n ≤ 6) :
    Calls Tryd.prog 28 #[.slice a n c] w fun e w' => e = .returned (.int .i64 (num l : Nat)) ∧ w = w' := by
  have hlen := h.len
  rw [byts_length] at hlen
  have HL := hid hlen
  clear hlen
  go_enter Tryd.func28, Tryd.ntmps28
  go_wp2
  go_loop [3, 8] (fun x i => ∃ k : Nat, k ≤ n ∧ i = .int .i64 k ∧ x = .int .i64 (num (l.take k) : Nat)) (fun _ i => n - (intOf i).toNat)
  case atStart => exact ⟨0, by omega, rfl, by simp [num]⟩
  case round =>
    obtain ⟨k, hk, rfl, rfl⟩ := hrel
    have hb := num_le (l.take k)
    have hb1 : 256 ^ (l.take k).length ≤ 256 ^ 6 := Nat.pow_le_pow_right (by omega) (by rw [List.length_take]; omega)
    have hb2 : num (l.take k) < 281474976710656 := Nat.lt_of_lt_of_le hb hb1
    clear hb1
    generalize hx : num (l.take k) = x at *
    have HX := hid hx
    clear hx hb
    by_cases hlt : k < n
    · obtain ⟨b, o, rfl⟩ := h.addr (by omega)
      have hc := h.at k hlt
      simp only [byts, List.getElem_map, byt] at hc
      have hnext : Hid (num (l.take (k + 1)) = x * 256 + (l[k]'(by rw [HL.out]; exact hlt)).toNat) := by
        show _ = _
        rw [num_take l k (by rw [HL.out]; exact hlt), HX.out]
      generalize (l[k]'(by rw [HL.out]; exact hlt)) = z at *
      have hz := z.toNat_lt
      have e1 := or_shift x z.toNat (by omega) hz
      go_wp2
      go_round
      case rel => exact ⟨k + 1, by omega, by go_num, by rw [hnext.out]; go_num⟩
      case measure => simp [intOf]; omega
    · have hfin : Hid (num l = x) := by
        show _ = _
        rw [← HX.out, List.take_of_length_le (by rw [HL.out]; omega)]
      go_wp2
      go_ret
      exact ⟨by rw [hfin.out]; rfl, rfl⟩

set_option maxHeartbeats 400000 in
theorem zero_any (a : Option Addr) (n c : Nat) (l : List UInt8) (w : World) (h : Sl w a n c (byts l)) :
    Calls Tryd.prog 29 #[.slice a n c] w fun e w' => e = .returned (.bool (zeros l)) ∧ w = w' := by
  unfold zeros
  have hlen := h.len
  have hle := h.le
  have hcap := h.cap
  rw [byts_length] at hlen
  have HL := hid hlen
  clear hlen
  go_enter Tryd.func29, Tryd.ntmps29
  go_wp2
  go_loop [7] (fun i => ∃ k : Nat, k ≤ n ∧ i = .int .i64 k ∧ (l.take k).all (· == 0) = true) (fun i => n - (intOf i).toNat)
  case atStart => exact ⟨0, by omega, rfl, by simp⟩
  case round =>
    obtain ⟨k, hk, rfl, hz⟩ := hrel
    have HZ := hid hz
    clear hz
    by_cases hlt : k < n
    · obtain ⟨b, o, rfl⟩ := h.addr (by omega)
      have hc := h.at k hlt
      simp only [byts, List.getElem_map, byt] at hc
      have hlk : k < l.length := by rw [HL.out]; exact hlt
      have hnext : Hid ((l.take (k + 1)).all (· == 0) = (l[k]'hlk == 0)) := by
        show _ = _
        rw [List.take_succ_eq_append_getElem hlk, List.all_append, HZ.out]
        simp
      have hfalse : Hid ((l[k]'hlk == 0) = false → l.all (· == 0) = false) := by
        intro hf
        rw [List.all_eq_false]
        exact ⟨l[k]'hlk, List.getElem_mem _, by simp [hf]⟩
      generalize (l[k]'hlk) = z at *
      by_cases hz0 : z = 0
      · subst hz0
        go_wp2
        go_round
        case rel => exact ⟨k + 1, by omega, by go_num, by rw [hnext.out]; rfl⟩
        case measure => simp [intOf]; omega
      · have hz1 : ¬ (z.toNat : Int) = 0 := by
          intro hh
          exact hz0 (UInt8.toNat_inj.1 (by simp; omega))
        have hz2 : ((z.toNat : Int) != 0) = true := by simpa using hz1
        have hfin : Hid (l.all (· == 0) = false) := hfalse.out (by simpa using hz0)
        go_wp2
        go_ret
        exact ⟨by rw [hfin.out]; rfl, rfl⟩
    · have hfin : Hid (l.all (· == 0) = true) := by
        have := HZ.out
        rwa [List.take_of_length_le (by rw [HL.out]; omega)] at this
      go_wp2
      go_ret
      exact ⟨by rw [hfin.out]; rfl, rfl⟩

theorem bytesEqual_any (a a' : Option Addr) (n c n' c' : Nat) (l l' : List UInt8) (w : World) (h : Sl w a n c (byts l)) (h' : Sl w a' n' c' (byts l')) :
    Calls Tryd.prog 40 #[.slice a n c, .slice a' n' c'] w fun e w' => e = .returned (.bool (l == l')) ∧ w = w' := by
  have hs := h.str (P := Tryd.prog) 22 9 5 Tryd.underlying22 Tryd.underlying5 Tryd.underlying9
  have hs' := h'.str (P := Tryd.prog) 22 9 5 Tryd.underlying22 Tryd.underlying5 Tryd.underlying9
  go_enter Tryd.func40, Tryd.ntmps40
  go_wp2
  go_ret
  exact ⟨rfl, rfl⟩
end Go.Proofs.YtipmfbpomhcfcaaDoor
