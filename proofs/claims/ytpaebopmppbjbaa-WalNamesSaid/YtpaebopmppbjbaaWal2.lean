/- The walks of wal's zero, run, log, fault, falls. -/
import Derived.Test.YtpaebopmppbjbaaWal1
set_option linter.unusedVariables false
set_option linter.unusedSimpArgs false
namespace Go.Le
open Go Go.RowKit
theorem allZero_take (b : List UInt8) (k : Nat) (h : k < b.length) : allZero (b.take (k + 1)) = (allZero (b.take k) && (b[k] == 0)) := by
  unfold allZero
  rw [List.take_succ_eq_append_getElem h, List.all_append]
  simp
theorem allZero_false (b : List UInt8) (k : Nat) (h : k < b.length) (hx : b[k] ≠ 0) : allZero b = false := by
  cases hz : allZero b with
  | false => rfl
  | true =>
    unfold allZero at hz
    have := List.all_eq_true.1 hz b[k] (List.getElem_mem h)
    simp at this
    exact absurd this hx
theorem byt_zero (x : UInt8) : ((x.toNat : Int) != 0) = (x != 0) := by
  rw [Bool.eq_iff_iff]
  simp only [bne_iff_ne]
  constructor
  · intro h hx; subst hx; exact h rfl
  · intro h hx; exact h (UInt8.toNat_inj.1 (by simpa using hx))
/-- numbers in memory -/
def nums (l : List Nat) : List Value := l.map fun n : Nat => .int .i64 (n : Int)
theorem nums_length (l : List Nat) : (nums l).length = l.length := by simp [nums]
theorem nums_append (l r : List Nat) : nums (l ++ r) = nums l ++ nums r := by simp [nums]
theorem nums_one (l : List Nat) : ∀ v ∈ nums l, v.oneCell' = true := by
  intro v hv
  simp only [nums, List.mem_map] at hv
  obtain ⟨x, _, rfl⟩ := hv
  rfl
theorem runOf_snoc (lo hi : Nat) (h : lo ≤ hi) : runOf lo (hi + 1) = runOf lo hi ++ [hi] := by
  unfold runOf
  rw [show hi + 1 - lo = (hi - lo) + 1 by omega, List.range'_concat]
  congr 2
  omega
end Go.Le
namespace Go.Proofs.Ytpaebopmppbjbaa
open Go Go.RowKit Go.Le
theorem i64info : (Try.prog.info? 3).map (fun i => (i.zero, i.size, i.bytes)) = some (some (.int .i64 0), 1, 8) := by kernel_rfl

theorem isnz_any (w : World) (x : UInt8) : Calls Try.prog 64 #[.int .u8 (x.toNat : Int)] w fun e w' => e = .returned (.bool (x != 0)) ∧ w = w' := by
  go_enter Try.func64, Try.ntmps64
  go_wp2
  go_ret
  exact ⟨by rw [← byt_zero]; rfl, rfl⟩
set_option maxHeartbeats 1000000 in
theorem indexF_any (w : World) (a : Option Addr) (n c : Nat) (b : List UInt8) (h : Sl w a n c (byts b)) :
    Calls Try.prog 70 #[.slice a n c, .func (.func 64) #[] #[]] w fun e w' => (∃ k : Int, e = .returned (.int .i64 k) ∧ decide (0 ≤ k) = !allZero b) ∧ w = w' := by
  have hl := h.len
  rw [byts_length] at hl
  have hle := h.le
  have hcap := h.cap
  have HL := hid hl
  have HS := hid h
  clear hl h
  go_enter Try.func70, Try.ntmps70
  go_wp2
  go_loop [5, 8] (fun _ i => ∃ k : Nat, k ≤ n ∧ i = .int .i64 k ∧ allZero (b.take k) = true) (fun _ i => n - (intOf i).toNat)
  case atStart => exact ⟨0, by omega, rfl, by simp [allZero]⟩
  case round =>
    obtain ⟨k, hk, rfl, hz⟩ := hrel
    have HZ := hid hz
    clear hz
    by_cases hlt : k < n
    · obtain ⟨bb, o, rfl⟩ := HS.out.addr (by omega)
      have hc := HS.out.at k hlt
      have hkb : k < b.length := by rw [HL.out]; exact hlt
      have h3 : (byts b)[k]'(by rw [byts_length]; exact hkb) = .int .u8 ((b[k].toNat : Nat) : Int) := by simp [byts, byt]
      rw [h3] at hc
      have HT := hid (allZero_take b k hkb)
      have HF := hid (allZero_false b k hkb)
      clear h3
      generalize b[k] = x at *
      have kn : (k : Int) < (n : Int) := by omega
      by_cases hx : x = 0
      · subst hx
        go_wp2_with (go_at_call 64; refine (isnz_any _ 0).mono ?_; rintro e w' ⟨rfl, rfl⟩; dsimp only; rw [show ((0 : UInt8) != 0) = false from rfl])
        go_round
        case rel => exact ⟨k + 1, by omega, by go_num, by rw [HT.out, HZ.out]; rfl⟩
        case measure => simp [intOf]; omega
      · have HX := hid hx
        clear hx
        go_wp2_with (go_at_call 64; refine (isnz_any _ x).mono ?_; rintro e w' ⟨rfl, rfl⟩; dsimp only; rw [show (x != 0) = true by simpa using HX.out])
        go_ret
        exact ⟨⟨_, rfl, by rw [HF.out HX.out]; simp⟩, rfl⟩
    · obtain rfl : k = n := by omega
      go_wp2
      go_ret
      exact ⟨⟨_, rfl, by rw [List.take_of_length_le (by rw [HL.out]; omega)] at HZ; rw [HZ.out]; decide⟩, rfl⟩
theorem contains_any (w : World) (a : Option Addr) (n c : Nat) (b : List UInt8) (h : Sl w a n c (byts b)) :
    Calls Try.prog 63 #[.slice a n c, .func (.func 64) #[] #[]] w fun e w' => e = .returned (.bool (!allZero b)) ∧ w = w' := by
  have H := hid (indexF_any w a n c b h)
  clear h
  go_enter Try.func63, Try.ntmps63
  go_wp2_with fail
  refine H.out.mono ?_
  rintro e w' ⟨⟨k, rfl, hk⟩, rfl⟩
  dsimp only
  have HK := hid hk
  clear hk
  go_wp2_with fail
  go_ret
  exact ⟨by rw [← HK.out]; rfl, rfl⟩
theorem zero_any (w : World) (a : Option Addr) (n c : Nat) (b : List UInt8) (h : Sl w a n c (byts b)) :
    Calls Try.prog 47 #[.slice a n c] w fun e w' => e = .returned (.bool (allZero b)) ∧ w = w' := by
  have H := hid (contains_any w a n c b h)
  clear h
  go_enter Try.func47, Try.ntmps47
  go_wp2_with fail
  refine H.out.mono ?_
  rintro e w' ⟨rfl, rfl⟩
  dsimp only
  go_wp2_with fail
  go_ret
  exact ⟨by cases allZero b <;> rfl, rfl⟩

set_option maxHeartbeats 1000000 in
theorem run_any (wb w : World) (R : HP) (h : Mem wb w R) (lo hi : Nat) (hhi : hi ≤ 100000) :
    Calls Try.prog 27 #[.int .i64 (lo : Int), .int .i64 (hi : Int)] w fun e w' => ∃ a c, e = .returned (.slice a (hi - lo) c) ∧ Mem wb w' (row 3 1 a (hi - lo) c (nums (runOf lo hi)) * R) := by
  obtain ⟨i0, hi0, hz0, hz1, hz2⟩ := info_parts i64info
  have HI := hid (And.intro hi0 (And.intro hz0 (And.intro hz1 hz2)))
  have H := hid h
  clear h hi0 hz0 hz1 hz2
  go_enter Try.func27, Try.ntmps27
  go_wp2
  go_loopw [5, 6] (fun v i wr => ∃ (k : Nat) (a : Option Addr) (c : Nat), lo ≤ k ∧ (k ≤ hi ∨ k = lo) ∧ i = .int .i64 k ∧ v = .slice a (k - lo) c ∧ Mem wb wr (row 3 1 a (k - lo) c (nums (runOf lo k)) * R)) (fun _ i _ => hi - (intOf i).toNat)
  case atStart => exact ⟨lo, none, 0, by omega, .inr rfl, rfl, by rw [Nat.sub_self], by rw [Nat.sub_self]; exact Mem.row_none.2 ⟨rfl, rfl, by simp [runOf, nums], H.out⟩⟩
  case round =>
    obtain ⟨k, a, c, hk1, hk2, rfl, rfl, hm⟩ := hrel
    have HM := hid hm
    clear H hm
    by_cases hlt : k < hi
    · obtain ⟨hi0, hz0, hz1, hz2⟩ := HI.out
      have hmA := HM.out.alloc [.int .i64 (k : Int)] 3
      have hx := hmA.eq (sep_left_comm _ _ _)
      have kn : (k : Int) < (hi : Int) := by omega
      go_wp2_with ((with_reducible show wpList _ _ _ (Oper.mk (some 16) _ _ _ _ _ :: _) _ _); refine wpList_append (by rfl) (.tmp 13) (.tmp 15) 57 (by rfl) Try.underlying57 hi0 hz0 hz1 hz2 rfl (by omega) (by rfl) (by rfl) hx (by rfl) rfl (news_built hmA.blk.1) (fun h => by cases h) (by simp [Value.oneCell']) (by omega) (by omega) ?_; intro a' c' w2 hm2 _ _; clear hi0 hz0 hz1 hz2 hmA hx)
      have hm3 := hm2.duo_row.p1.right
      rw [show nums (runOf lo k) ++ [Value.int .i64 (k : Int)] = nums (runOf lo (k + 1)) by rw [runOf_snoc lo k hk1, nums_append]; rfl, show k - lo + 1 = k + 1 - lo by omega] at hm3
      have HM3 := hid hm3
      clear hm2 hm3 HM
      rw [show k - lo + 1 = k + 1 - lo by omega]
      go_wp2_with fail
      go_roundw
      case rel => exact ⟨k + 1, a', c', by omega, .inl (by omega), by go_num, rfl, HM3.out⟩
      case measure => simp [intOf] <;> omega
    · have e1 : k - lo = hi - lo := by omega
      have e2 : runOf lo k = runOf lo hi := by unfold runOf; rw [e1]
      have hm2 := HM.out
      rw [e1, e2] at hm2
      have HM2 := hid hm2
      rw [e1]
      clear HM hm2 e1 e2
      go_wp2_with fail
      go_ret
      exact ⟨_, _, rfl, HM2.out⟩
theorem log_any (wb w : World) (R : HP) (h : Mem wb w R) (d : Value) (p : Nat) (hp : p ≤ 250) :
    Calls Try.prog 22 #[.agg #[d, .int .i64 (p : Int)]] w fun e w' => ∃ a c, e = .returned (.slice a (2 * p + 1) c) ∧ Mem wb w' (row 3 1 a (2 * p + 1) c (nums (runOf 0 (2 * p + 1))) * R) := by
  have H := hid (run_any wb _ _ (h.alloc' (.cells #[d, .int .i64 (p : Int)] 54)) 0 (2 * p + 1) (by omega))
  clear h
  have e1 : ((2 * p + 1 : Nat) : Int) = 2 * (p : Int) + 1 := by omega
  rw [e1, Nat.sub_zero] at H
  clear e1
  go_enter Try.func22, Try.ntmps22
  go_wp2_with fail
  refine H.out.mono ?_
  rintro e w2 ⟨a, c, rfl, hm⟩
  dsimp only
  have HM := hid hm
  clear hm
  go_wp2_with fail
  go_ret
  exact ⟨_, _, rfl, HM.out⟩
/-- an error with the call that met it around it -/
theorem fault_any (wb w : World) (R : HP) (h : Mem wb w R) (s : ByteArray) (at' c : Int) :
    Calls Try.prog 23 #[.string s, .int .i64 at', .int .i64 c] w fun e w' => ∃ g, e = .returned (.iface 75 (.pointer (some ⟨g, 0, none⟩))) ∧ Mem wb w' (pts g 77 [.string s, .int .i64 at', .iface 45 (.int .i64 c)] * R) := by
  have H := hid (h.alloc [.string s, .int .i64 at', .iface 45 (.int .i64 c)] 77)
  clear h
  go_enter Try.func23, Try.ntmps23
  go_wp2
  go_ret
  exact ⟨_, rfl, H.out⟩
end Go.Proofs.Ytpaebopmppbjbaa
