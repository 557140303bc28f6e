/- The walks of the law's own small functions: rest, made, Eq. -/
import Derived.Test.YtipmfbpomhcfcaaDoorPgPlain
set_option linter.unusedVariables false
set_option linter.unusedSimpArgs false
namespace Go.Le
open Go
theorem rest_emod (n m : Int) (hm : 1 ≤ m) : (n.tmod m + m).tmod m = n % m := by
  have h1 : 0 ≤ n.tmod m + m := by
    have := Int.lt_tmod_of_pos n (show 0 < m by omega)
    omega
  rw [Int.tmod_eq_emod_of_nonneg h1, Int.add_emod_right]
  rcases Int.le_total 0 n with h | h
  · rw [Int.tmod_eq_emod_of_nonneg h, Int.emod_emod]
  · have e : n.tmod m = -((-n) % m) := by
      rw [← Int.tmod_eq_emod_of_nonneg (by omega), Int.neg_tmod, Int.neg_neg]
    rw [e]
    have h3 := Int.emod_add_mul_ediv (-n) m
    have : -((-n) % m) = n + m * ((-n) / m) := by omega
    rw [this, Int.add_mul_emod_self_left]
/-- the content of a right page -/
def cont (l : List UInt8) : List UInt8 := if l = [] then [1] else l.take 1008
theorem cont_length (l : List UInt8) : 1 ≤ (cont l).length ∧ (cont l).length ≤ 1008 := by
  unfold cont
  split
  · simp
  · rename_i h
    have := List.length_pos_iff.2 h
    simp; omega
theorem cont_same (l : List UInt8) (h0 : 0 < l.length) (h : l.length ≤ 1008) : cont l = l := by
  unfold cont
  rw [if_neg (by intro hh; simp [hh] at h0), List.take_of_length_le h]
/-- a right page -/
def right (number count : Int) (l : List UInt8) : List UInt8 := pgMade 2 (1 + number % 249).toNat (1 + count % 65535).toNat (cont l)
theorem right_ok (number count : Int) (l : List UInt8) : mkPage (1 + number % 249) (1 + count % 65535) (cont l) = right number count l ∧ mkErr (1 + number % 249) (1 + count % 65535) (cont l).length = 0 := by
  have h := cont_length l
  have e : mkErr (1 + number % 249) (1 + count % 65535) (cont l).length = 0 := by
    rw [mkErr, if_neg (by omega), if_neg (by omega), if_neg (by omega)]
  exact ⟨by rw [mkPage, if_pos e]; rfl, e⟩
theorem right_length (number count : Int) (l : List UInt8) : (right number count l).length = 1024 := pgMade_length _ _ _ _ (cont_length l).2
end Go.Le
namespace Go.Proofs.YtipmfbpomhcfcaaDoor
open Go Go.RowKit Go.Le

set_option maxHeartbeats 400000 in
theorem rest_any (n m : Int) (w : World) (h0 : 1 ≤ m) (h1 : m ≤ 4294967296) (_h2 : -9223372036854775808 ≤ n) (_h3 : n ≤ 9223372036854775807) :
    Calls Tryd.prog 9 #[.int .i64 n, .int .i64 m] w fun e w' => e = .returned (.int .i64 (n % m)) ∧ w = w' := by
  have hlo := Int.lt_tmod_of_pos n (show 0 < m by omega)
  have e : (n.tmod m + m) % m = n % m := by rw [← Int.tmod_eq_emod_of_nonneg (by omega)]; exact rest_emod n m h0
  have hhi := Int.tmod_lt_of_pos n (show 0 < m by omega)
  have ew : wrap64 (n.tmod m + m) = n.tmod m + m := by unfold wrap64; omega
  have E := hid e
  clear e
  go_enter Tryd.func9, Tryd.ntmps9
  go_wp2
  go_ret
  refine ⟨?_, rfl⟩
  show Ending.returned (Value.int IntKind.i64 _) = _
  rw [E.out]

theorem Eq_any (a a' : Option Addr) (n c n' c' : Nat) (l l' : List UInt8) (w : World) (h : Sl w a n c (byts l)) (h' : Sl w a' n' c' (byts l')) :
    Calls Tryd.prog 14 #[.slice a n c, .slice a' n' c'] w fun e w' => e = .returned (.bool (l == l')) ∧ w = w' := by
  have hs := h.str (P := Tryd.prog) 22 9 5 Tryd.underlying22 Tryd.underlying5 Tryd.underlying9
  have hs' := h'.str (P := Tryd.prog) 22 9 5 Tryd.underlying22 Tryd.underlying5 Tryd.underlying9
  go_enter Tryd.func14, Tryd.ntmps14
  go_wp2
  go_ret
  exact ⟨rfl, rfl⟩

set_option maxHeartbeats 1000000 in
theorem lawMade_any (number count : Int) (a : Option Addr) (m c : Nat) (l : List UInt8) (w : World) (ht : Tabled w) (h : Sl w a m c (byts l)) (n2 : -9223372036854775808 ≤ number) (n3 : number ≤ 9223372036854775807) (c2 : -9223372036854775808 ≤ count) (c3 : count ≤ 9223372036854775807) :
    Calls Tryd.prog 15 #[.int .i64 number, .int .i64 count, .slice a m c] w fun e w' => ∃ a' c', e = .returned (.tuple #[.slice a' 1024 c', .bool true]) ∧ Ow w' w.heap.size 5 a' 1024 c' (byts (right number count l)) ∧ Fr w.heap.size [] w w' := by
  have hle := h.le
  have hcap := h.cap
  have hlen := h.len
  rw [byts_length] at hlen
  have HT := hid ht
  obtain ⟨r1, r2⟩ := right_ok number count l
  have R1 := hid r1
  have R2 := hid r2
  have rl := right_length number count l
  have RL := hid rl
  clear ht r1 r2 rl
  have hn : 1 ≤ 1 + number % 249 ∧ 1 + number % 249 ≤ 249 := by omega
  have hk : 1 ≤ 1 + count % 65535 ∧ 1 + count % 65535 ≤ 65535 := by omega
  obtain ⟨hn0, hn1⟩ := hn
  obtain ⟨hk0, hk1⟩ := hk
  have key : ∀ (a1 : Option Addr) (m1 c1 : Nat) (w1 : World), Sl w1 a1 m1 c1 (byts (cont l)) → Fr w.heap.size [] w w1 →
      Hid (Calls Tryd.prog 12 #[.int .i64 (1 + number % 249), .int .i64 (1 + count % 65535), .slice a1 m1 c1] w1 fun e w' => ∃ a' c', e = .returned (.tuple #[.slice a' 1024 c', .int .i64 0]) ∧ Ow w' w.heap.size 5 a' 1024 c' (byts (right number count l)) ∧ Fr w.heap.size [] w w') := by
    intro a1 m1 c1 w1 hs hf
    refine (Make_any _ _ _ _ _ (cont l) w1 (HT.out.ext hf) hs).mono ?_
    rintro e w' ⟨a', n', c', rfl, how, hf'⟩
    rw [R1.out] at how
    have hnl := how.sl.len
    rw [byts_length, RL.out] at hnl
    subst hnl
    exact ⟨a', c', by rw [R2.out], how.base hf.size, Fr.call' (k := hf') (h := hf) (hS := by simp)⟩
  by_cases h0 : m = 0
  · have hl0 : l = [] := List.eq_nil_of_length_eq_zero (by omega)
    have hc : cont l = [1] := by rw [cont, if_pos hl0]
    rw [hc] at key
    have KEY := hid key
    clear key hl0 hc hlen
    subst h0
    go_enter Tryd.func15, Tryd.ntmps15
    go_wp2_with (first | (go_at_call 9; refine (rest_any _ _ _ (by omega) (by omega) (by omega) (by omega)).mono ?_; rintro e w' ⟨rfl, rfl⟩) | (go_at_call 12; refine (KEY.out _ _ _ _ (Blk.sl_all (cs := byts [1]) (by repeat (first | assumption | apply Blk.drew | exact Blk.new' _ _ (by first | rfl | (simp; done) | (simp; omega)) | apply Blk.alloc)) 1 rfl (by omega)) (by repeat (first | exact Fr.refl _ _ _ | assumption | apply Fr.drew | (refine Fr.drewN ?_ _) | (refine Fr.alloc ?_ (by first | omega | (simp; done) | (simp; omega)) _) | (refine Fr.setCell ?_ (by first | (left; simp; done) | (right; simp; done) | (right; simp; omega)) _)))).out.mono ?_; rintro e w' ⟨a', c', rfl, how, hf⟩))
    go_ret2
    exact ⟨a', c', rfl, how, hf⟩
  have h0' : ((m : Int) == 0) = false := by simp; omega
  by_cases h1 : 1008 < m
  · have hc : cont l = l.take 1008 := by rw [cont, if_neg (by intro hh; simp [hh] at hlen; omega)]
    have hcut := h.cut2 0 1008 a 1008 c (by omega) (by omega) (by split <;> cases a <;> simp [Addr.add]) rfl rfl
    have e : ((byts l).take 1008).drop 0 = byts (cont l) := by rw [hc]; simp [byts]
    rw [e] at hcut
    have KEY := hid key
    clear key hc hlen e h0
    have hi : (1008 : Int) ≤ c := by omega
    go_enter Tryd.func15, Tryd.ntmps15
    go_wp2_with (first | (go_at_call 9; refine (rest_any _ _ _ (by omega) (by omega) (by omega) (by omega)).mono ?_; rintro e w' ⟨rfl, rfl⟩) | (go_at_call 12; refine (KEY.out _ _ _ _ hcut (by repeat (first | exact Fr.refl _ _ _ | assumption | apply Fr.drew | (refine Fr.drewN ?_ _) | (refine Fr.alloc ?_ (by first | omega | (simp; done) | (simp; omega)) _) | (refine Fr.setCell ?_ (by first | (left; simp; done) | (right; simp; done) | (right; simp; omega)) _)))).out.mono ?_; rintro e w' ⟨a', c', rfl, how, hf⟩))
    go_ret2
    exact ⟨a', c', rfl, how, hf⟩
  · have hc : cont l = l := cont_same l (by omega) (by omega)
    rw [← hc] at h
    have KEY := hid key
    clear key hc hlen h0
    go_enter Tryd.func15, Tryd.ntmps15
    go_wp2_with (first | (go_at_call 9; refine (rest_any _ _ _ (by omega) (by omega) (by omega) (by omega)).mono ?_; rintro e w' ⟨rfl, rfl⟩) | (go_at_call 12; refine (KEY.out _ _ _ _ h (by repeat (first | exact Fr.refl _ _ _ | assumption | apply Fr.drew | (refine Fr.drewN ?_ _) | (refine Fr.alloc ?_ (by first | omega | (simp; done) | (simp; omega)) _) | (refine Fr.setCell ?_ (by first | (left; simp; done) | (right; simp; done) | (right; simp; omega)) _)))).out.mono ?_; rintro e w' ⟨a', c', rfl, how, hf⟩))
    go_ret2
    exact ⟨a', c', rfl, how, hf⟩
end Go.Proofs.YtipmfbpomhcfcaaDoor
