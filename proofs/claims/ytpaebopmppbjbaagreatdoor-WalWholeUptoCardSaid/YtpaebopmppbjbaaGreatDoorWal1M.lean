import Derived.Test.YtpaebopmppbjbaaGreatDoorWalP
import Derived.Test.YtpaebopmppbjbaaGreatDoorRegM
import Derived.Test.YtpaebopmppbjbaaGreatDoorSec1M
import Derived.Defers
import Derived.Recover
/- The walks of wal's must, read, write, flush, slot, home, Room, Need, fault. -/
set_option linter.unusedVariables false
set_option linter.unusedSimpArgs false
namespace Go.Le
open Go Go.RowKit
/-- the panic that gives a call up -/
def errP (t : TypeId) (c : Int) : PanicEntry := { v := .iface t (.int .i64 c), recovered := false }
end Go.Le
namespace Go.Proofs.YtpaebopmppbjbaaGreatDoor
open Go Go.RowKit Go.Le

/-- a call of the disk has answered, or was given up -/
def IoSays {α : Type} (wb : World) (g : Nat) (R : HP) (res : Except Int α × Dev) (ret : α → Value → HP) (e : Ending) (w' : World) : Prop :=
  match res with
  | (.ok a, D') => ∃ v, e = .returned v ∧ Mem wb w' (ret a v * (devAt T8 g D' * R))
  | (.error c, D') => e = .panicked [errP 49 c] ∧ c ≠ 0 ∧ Mem wb w' (devAt T8 g D' * R)
/-- no answer but that it is done -/
def unitB (_ : Unit) (v : Value) : HP := pur (v = .tuple #[])
/-- bytes, new -/
def bytesB (b : List UInt8) (v : Value) : HP := rowB 5 b.length (byts b) v
theorem IoSays.ok {α : Type} {wb : World} {g : Nat} {R : HP} {res : Except Int α × Dev} {ret : α → Value → HP} {e : Ending} {w' : World} {a : α} {D' : Dev} (h : IoSays wb g R res ret e w') (hr : res = (.ok a, D')) : ∃ v, e = .returned v ∧ Mem wb w' (ret a v * (devAt T8 g D' * R)) := by subst hr; exact h
theorem IoSays.error {α : Type} {wb : World} {g : Nat} {R : HP} {res : Except Int α × Dev} {ret : α → Value → HP} {e : Ending} {w' : World} {c : Int} {D' : Dev} (h : IoSays wb g R res ret e w') (hr : res = (.error c, D')) : e = .panicked [errP 49 c] ∧ c ≠ 0 ∧ Mem wb w' (devAt T8 g D' * R) := by subst hr; exact h
theorem IoSays.unit {wb : World} {g : Nat} {R : HP} {res : Except Int Unit × Dev} {e : Ending} {w' : World} {D' : Dev} (h : IoSays wb g R res unitB e w') (hr : res = (.ok (), D')) : e = .returned (.tuple #[]) ∧ Mem wb w' (devAt T8 g D' * R) := by
  obtain ⟨v, he, hm⟩ := h.ok hr
  unfold unitB at hm
  rw [Mem.pur] at hm
  exact ⟨by rw [he, hm.1], hm.2⟩
theorem IoSays.mkOk {α : Type} {wb : World} {g : Nat} {R : HP} {res : Except Int α × Dev} {ret : α → Value → HP} {w' : World} {a : α} {D' : Dev} {v : Value} (hr : res = (.ok a, D')) (h : Mem wb w' (ret a v * (devAt T8 g D' * R))) : IoSays wb g R res ret (.returned v) w' := by subst hr; exact ⟨v, rfl, h⟩
theorem IoSays.mkUnit {wb : World} {g : Nat} {R : HP} {res : Except Int Unit × Dev} {w' : World} {D' : Dev} (hr : res = (.ok (), D')) (h : Mem wb w' (devAt T8 g D' * R)) : IoSays wb g R res unitB (.returned (.tuple #[])) w' :=
  IoSays.mkOk hr (by unfold unitB; rw [Mem.pur]; exact ⟨rfl, h⟩)
theorem IoSays.mkError {α : Type} {wb : World} {g : Nat} {R : HP} {res : Except Int α × Dev} {ret : α → Value → HP} {w' : World} {c : Int} {D' : Dev} (hr : res = (.error c, D')) (hc : c ≠ 0) (h : Mem wb w' (devAt T8 g D' * R)) : IoSays wb g R res ret (.panicked [errP 49 c]) w' := by subst hr; exact ⟨rfl, hc, h⟩

theorem ret_int {k : IntKind} {a b : Int} (h : a = b) : Ending.returned (.int k a) = .returned (.int k b) := by rw [h]
theorem must_ok (w : World) : Calls Tryz.prog 66 #[.int .i64 0] w fun e w' => e = .returned (.tuple #[]) ∧ w = w' := by
  go_enter Tryz.func66, Tryz.ntmps66
  go_wp2
  go_end0
  exact ⟨rfl, rfl⟩
theorem must_no (w : World) (c : Int) (hc : c ≠ 0) : Calls Tryz.prog 66 #[.int .i64 c] w fun e w' => e = .panicked [errP 49 c] ∧ w = w' := by
  have h0 : (c != 0) = true := by simpa using hc
  clear hc
  go_enter Tryz.func66, Tryz.ntmps66
  go_wp2
  exact ⟨rfl, rfl, rfl⟩

set_option maxHeartbeats 1000000 in
theorem dread_any (wb w : World) (R : HP) (g : Nat) (D : Dev) (h : Mem wb w (devAt T8 g D * R)) (hpl : D.pend.length ≤ 1000000000) (i : Nat) (hi : i ≤ 1000000000) (p : Int) :
    Calls Tryz.prog 48 #[.agg #[.pointer (some ⟨g, 0, none⟩), .int .i64 p], .int .i64 (i : Int)] w (IoSays wb g R (ioRead i D) bytesB) := by
  have hm := h.alloc' (.cells #[.pointer (some ⟨g, 0, none⟩), .int .i64 p] 84)
  obtain ⟨hok, ka, kc, h1⟩ := Mem.devAt.1 hm
  have HOK := hid hok
  by_cases ha : D.asked i = 0
  · obtain ⟨hd, h0, hn⟩ := asked_zero ha
    have HRD := hid (Read_any wb _ _ g D ka _ kc h1 hok hpl i (by omega) hd)
    have HR : Hid (ioRead i D = (.ok (D.last i), D)) := by unfold ioRead; rw [if_pos ha]; exact hid rfl
    have HL := hid (Dev.last_length hok (i := i) (by omega))
    clear h hm h1 hok ha hd h0 hn
    go_enter Tryz.func48, Tryz.ntmps48
    go_wp2_with fail
    refine HRD.out.mono ?_
    rintro e w2 ⟨a, c, rfl, hm2⟩
    dsimp only
    have HM2 := hid ((Mem.devAt.2 ⟨HOK.out, ka, kc, hm2.q2⟩ : Mem wb w2 (devAt T8 g D * _)).eq (by ac_rfl) : Mem wb w2 (row 5 1 a 512 c (byts (D.last i)) * (devAt T8 g D * R)))
    clear hm2 HRD
    go_wp2_with (go_at_call 66; refine (must_ok _).mono ?_; rintro e w' ⟨rfl, rfl⟩; dsimp only)
    go_ret
    refine IoSays.mkOk HR.out ?_
    unfold bytesB
    rw [HL.out]
    exact Mem.rowB.2 ⟨a, c, rfl, HM2.out⟩
  · have HRD := hid (Read_no wb _ _ g D ka _ kc h1 hok i (by omega) (by omega) ha)
    have HR : Hid (ioRead i D = (.error (D.asked i), D)) := by unfold ioRead; rw [if_neg ha]; exact hid rfl
    have HA := hid ha
    have HM := hid hm
    clear h hm h1 hok ha
    generalize D.asked i = c at *
    go_enter Tryz.func48, Tryz.ntmps48
    go_wp2_with fail
    refine HRD.out.mono ?_
    rintro e w2 ⟨rfl, rfl⟩
    dsimp only
    go_wp2_with (go_at_call 66; refine (must_no _ _ HA.out).mono ?_; rintro e w' ⟨rfl, rfl⟩; dsimp only)
    exact ⟨rfl, IoSays.mkError HR.out HA.out HM.out⟩

set_option maxHeartbeats 1000000 in
theorem dwrite_any (wb w : World) (R : HP) (g : Nat) (D : Dev) (h : Mem wb w (devAt T8 g D * R)) (hpl : D.pend.length ≤ 1000000000) (i : Nat) (hi : i ≤ 1000000000) (p : Int) (a : Option Addr) (n c : Nat) (b : List UInt8) (hs : Sl w a n c (byts b)) :
    Calls Tryz.prog 59 #[.agg #[.pointer (some ⟨g, 0, none⟩), .int .i64 p], .int .i64 (i : Int), .slice a n c] w (IoSays wb g R (ioWrite i b D) unitB) := by
  have hm := h.alloc' (.cells #[.pointer (some ⟨g, 0, none⟩), .int .i64 p] 84)
  have HWR := hid (Write_any wb _ _ g D hm hpl i (by omega) (by omega) a n c b (hs.ext ((Fr.refl _ _ _).alloc (Nat.le_refl _) _)))
  obtain ⟨r, HR⟩ : ∃ r, Hid (D.write i b = r) := ⟨_, hid rfl⟩
  rw [HR.out] at HWR
  have HI : Hid (ioWrite i b D = ((if r.2 = 0 then .ok () else .error r.2), r.1)) := by unfold ioWrite; rw [HR.out]; exact hid rfl
  clear h hm hs HR
  obtain ⟨D', c⟩ := r
  dsimp only at HWR HI
  by_cases h0 : c = 0
  · subst h0
    rw [if_pos rfl] at HI
    go_enter Tryz.func59, Tryz.ntmps59
    go_wp2_with fail
    refine HWR.out.mono ?_
    rintro e w2 ⟨rfl, hm2⟩
    dsimp only
    have HM2 := hid hm2
    clear hm2
    go_wp2_with (go_at_call 66; refine (must_ok _).mono ?_; rintro e w' ⟨rfl, rfl⟩; dsimp only)
    go_end0
    exact IoSays.mkUnit HI.out HM2.out
  · rw [if_neg h0] at HI
    have HC := hid h0
    clear h0
    go_enter Tryz.func59, Tryz.ntmps59
    go_wp2_with fail
    refine HWR.out.mono ?_
    rintro e w2 ⟨rfl, hm2⟩
    dsimp only
    have HM2 := hid hm2
    clear hm2
    go_wp2_with (go_at_call 66; refine (must_no _ _ HC.out).mono ?_; rintro e w' ⟨rfl, rfl⟩; dsimp only)
    exact ⟨rfl, IoSays.mkError HI.out HC.out HM2.out⟩

set_option maxHeartbeats 1000000 in
theorem dflush_any (wb w : World) (R : HP) (g : Nat) (D : Dev) (h : Mem wb w (devAt T8 g D * R)) (hpl : D.pend.length ≤ 1000000000) (p : Int) :
    Calls Tryz.prog 58 #[.agg #[.pointer (some ⟨g, 0, none⟩), .int .i64 p]] w (IoSays wb g R (ioFlush D) unitB) := by
  have hm := h.alloc' (.cells #[.pointer (some ⟨g, 0, none⟩), .int .i64 p] 84)
  have HWR := hid (Flush_any wb _ _ g D hm hpl)
  obtain ⟨r, HR⟩ : ∃ r, Hid (D.flush = r) := ⟨_, hid rfl⟩
  rw [HR.out] at HWR
  have HI : Hid (ioFlush D = ((if r.2 = 0 then .ok () else .error r.2), r.1)) := by unfold ioFlush; rw [HR.out]; exact hid rfl
  clear h hm HR
  obtain ⟨D', c⟩ := r
  dsimp only at HWR HI
  by_cases h0 : c = 0
  · subst h0
    rw [if_pos rfl] at HI
    go_enter Tryz.func58, Tryz.ntmps58
    go_wp2_with fail
    refine HWR.out.mono ?_
    rintro e w2 ⟨rfl, hm2⟩
    dsimp only
    have HM2 := hid hm2
    clear hm2
    go_wp2_with (go_at_call 66; refine (must_ok _).mono ?_; rintro e w' ⟨rfl, rfl⟩; dsimp only)
    go_end0
    exact IoSays.mkUnit HI.out HM2.out
  · rw [if_neg h0] at HI
    have HC := hid h0
    clear h0
    go_enter Tryz.func58, Tryz.ntmps58
    go_wp2_with fail
    refine HWR.out.mono ?_
    rintro e w2 ⟨rfl, hm2⟩
    dsimp only
    have HM2 := hid hm2
    clear hm2
    go_wp2_with (go_at_call 66; refine (must_no _ _ HC.out).mono ?_; rintro e w' ⟨rfl, rfl⟩; dsimp only)
    exact ⟨rfl, IoSays.mkError HI.out HC.out HM2.out⟩

theorem slot_any (w : World) (d : Value) (n : Nat) (hn : n ≤ 1000000) (p : Value) : Calls Tryz.prog 57 #[.agg #[d, p], .int .i64 (n : Int)] w fun e w' => e = .returned (.int .i64 (slotOf n : Nat)) ∧ Fr w.heap.size [] w w' := by
  go_enter Tryz.func57, Tryz.ntmps57
  go_wp2
  go_ret
  exact ⟨by simp [slotOf], (by repeat (first | exact Fr.refl _ _ _ | assumption | apply Fr.drew | (refine Fr.drewN ?_ _) | (refine Fr.alloc ?_ (by first | omega | (simp; done) | (simp; omega)) _) | (refine Fr.setCell ?_ (by first | (left; simp; done) | (right; simp; done) | (right; simp; omega)) _)))⟩
theorem home_any (w : World) (d : Value) (n p : Nat) (hn : n ≤ 1000000) (hp : p ≤ 1000000) : Calls Tryz.prog 47 #[.agg #[d, .int .i64 (p : Int)], .int .i64 (n : Int)] w fun e w' => e = .returned (.int .i64 (homeOf p n : Nat)) ∧ Fr w.heap.size [] w w' := by
  go_enter Tryz.func47, Tryz.ntmps47
  go_wp2
  go_ret
  exact ⟨by simp [homeOf], (by repeat (first | exact Fr.refl _ _ _ | assumption | apply Fr.drew | (refine Fr.drewN ?_ _) | (refine Fr.alloc ?_ (by first | omega | (simp; done) | (simp; omega)) _) | (refine Fr.setCell ?_ (by first | (left; simp; done) | (right; simp; done) | (right; simp; omega)) _)))⟩
theorem Room_any (w : World) (s : Int) (h1 : -9223372036854775808 ≤ s) (h2 : s ≤ 9223372036854775807) : Calls Tryz.prog 67 #[.int .i64 s] w fun e w' => e = .returned (.int .i64 (roomOf s.toNat : Nat)) ∧ w = w' := by
  by_cases h5 : s < 5
  · go_enter Tryz.func67, Tryz.ntmps67
    go_wp2
    go_ret
    exact ⟨ret_int (by unfold roomOf; rw [if_pos (by omega)]; rfl), rfl⟩
  · by_cases hq : (s - 1) / 4 ≤ 250
    · go_enter Tryz.func67, Tryz.ntmps67
      go_wp2
      all_goals
        go_ret
        exact ⟨ret_int (by unfold roomOf; rw [if_neg (by omega)]; omega), rfl⟩
    · go_enter Tryz.func67, Tryz.ntmps67
      go_wp2
      all_goals
        go_ret
        exact ⟨ret_int (by unfold roomOf; rw [if_neg (by omega)]; omega), rfl⟩
def needOf (p : Int) : Int := if p < 1 ∨ 250 < p then 0 else 4 * p + 1
theorem Need_any (w : World) (p : Int) : Calls Tryz.prog 17 #[.int .i64 p] w fun e w' => e = .returned (.int .i64 (needOf p)) ∧ w = w' := by
  by_cases h1 : p < 1
  · go_enter Tryz.func17, Tryz.ntmps17
    go_wp2
    go_ret
    exact ⟨ret_int (by unfold needOf; rw [if_pos (by omega)]), rfl⟩
  · by_cases h2 : 250 < p
    · go_enter Tryz.func17, Tryz.ntmps17
      go_wp2
      go_ret
      exact ⟨ret_int (by unfold needOf; rw [if_pos (by omega)]), rfl⟩
    · go_enter Tryz.func17, Tryz.ntmps17
      go_wp2
      go_ret
      exact ⟨ret_int (by unfold needOf; rw [if_neg (by omega)]), rfl⟩
end Go.Proofs.YtpaebopmppbjbaaGreatDoor

/- The walks of wal's zero, run, log, fault, falls. -/
set_option linter.unusedVariables false
set_option linter.unusedSimpArgs false
namespace Go.Le
open Go Go.RowKit
theorem allZero_take (b : List UInt8) (k : Nat) (h : k < b.length) : allZero (b.take (k + 1)) = (allZero (b.take k) && (b[k] == 0)) := by
  unfold allZero
  rw [List.take_succ_eq_append_getElem h, List.all_append]
  simp
theorem allZero_false (b : List UInt8) (k : Nat) (h : k < b.length) (hx : b[k] ≠ 0) : allZero b = false := by
  cases hz : allZero b with
  | false => rfl
  | true =>
    unfold allZero at hz
    have := List.all_eq_true.1 hz b[k] (List.getElem_mem h)
    simp at this
    exact absurd this hx
theorem byt_zero (x : UInt8) : ((x.toNat : Int) != 0) = (x != 0) := by
  rw [Bool.eq_iff_iff]
  simp only [bne_iff_ne]
  constructor
  · intro h hx; subst hx; exact h rfl
  · intro h hx; exact h (UInt8.toNat_inj.1 (by simpa using hx))
/-- numbers in memory -/
def nums (l : List Nat) : List Value := l.map fun n : Nat => .int .i64 (n : Int)
theorem nums_length (l : List Nat) : (nums l).length = l.length := by simp [nums]
theorem nums_append (l r : List Nat) : nums (l ++ r) = nums l ++ nums r := by simp [nums]
theorem runOf_snoc (lo hi : Nat) (h : lo ≤ hi) : runOf lo (hi + 1) = runOf lo hi ++ [hi] := by
  unfold runOf
  rw [show hi + 1 - lo = (hi - lo) + 1 by omega, List.range'_concat]
  congr 2
  omega
end Go.Le
namespace Go.Proofs.YtpaebopmppbjbaaGreatDoor
open Go Go.RowKit Go.Le
theorem i64info : (Tryz.prog.info? 3).map (fun i => (i.zero, i.size, i.bytes)) = some (some (.int .i64 0), 1, 8) := by kernel_rfl

theorem isnz_any (w : World) (x : UInt8) : Calls Tryz.prog 93 #[.int .u8 (x.toNat : Int)] w fun e w' => e = .returned (.bool (x != 0)) ∧ w = w' := by
  go_enter Tryz.func93, Tryz.ntmps93
  go_wp2
  go_ret
  exact ⟨by rw [← byt_zero]; rfl, rfl⟩
set_option maxHeartbeats 1000000 in
theorem indexF_any (w : World) (a : Option Addr) (n c : Nat) (b : List UInt8) (h : Sl w a n c (byts b)) :
    Calls Tryz.prog 101 #[.slice a n c, .func (.func 93) #[] #[]] w fun e w' => (∃ k : Int, e = .returned (.int .i64 k) ∧ decide (0 ≤ k) = !allZero b) ∧ w = w' := by
  have hl := h.len
  rw [byts_length] at hl
  have hle := h.le
  have hcap := h.cap
  have HL := hid hl
  have HS := hid h
  clear hl h
  go_enter Tryz.func101, Tryz.ntmps101
  go_wp2
  go_loop [5, 8] (fun _ i => ∃ k : Nat, k ≤ n ∧ i = .int .i64 k ∧ allZero (b.take k) = true) (fun _ i => n - (intOf i).toNat)
  case atStart => exact ⟨0, by omega, rfl, by simp [allZero]⟩
  case round =>
    obtain ⟨k, hk, rfl, hz⟩ := hrel
    have HZ := hid hz
    clear hz
    by_cases hlt : k < n
    · obtain ⟨bb, o, rfl⟩ := HS.out.addr (by omega)
      have hc := HS.out.at k hlt
      have hkb : k < b.length := by rw [HL.out]; exact hlt
      have h3 : (byts b)[k]'(by rw [byts_length]; exact hkb) = .int .u8 ((b[k].toNat : Nat) : Int) := by simp [byts, byt]
      rw [h3] at hc
      have HT := hid (allZero_take b k hkb)
      have HF := hid (allZero_false b k hkb)
      clear h3
      generalize b[k] = x at *
      have kn : (k : Int) < (n : Int) := by omega
      by_cases hx : x = 0
      · subst hx
        go_wp2_with (go_at_call 93; refine (isnz_any _ 0).mono ?_; rintro e w' ⟨rfl, rfl⟩; dsimp only; rw [show ((0 : UInt8) != 0) = false from rfl])
        go_round
        case rel => exact ⟨k + 1, by omega, by go_num, by rw [HT.out, HZ.out]; rfl⟩
        case measure => simp [intOf]; omega
      · have HX := hid hx
        clear hx
        go_wp2_with (go_at_call 93; refine (isnz_any _ x).mono ?_; rintro e w' ⟨rfl, rfl⟩; dsimp only; rw [show (x != 0) = true by simpa using HX.out])
        go_ret
        exact ⟨⟨_, rfl, by rw [HF.out HX.out]; simp⟩, rfl⟩
    · obtain rfl : k = n := by omega
      go_wp2
      go_ret
      exact ⟨⟨_, rfl, by rw [List.take_of_length_le (by rw [HL.out]; omega)] at HZ; rw [HZ.out]; decide⟩, rfl⟩
theorem contains_any (w : World) (a : Option Addr) (n c : Nat) (b : List UInt8) (h : Sl w a n c (byts b)) :
    Calls Tryz.prog 92 #[.slice a n c, .func (.func 93) #[] #[]] w fun e w' => e = .returned (.bool (!allZero b)) ∧ w = w' := by
  have H := hid (indexF_any w a n c b h)
  clear h
  go_enter Tryz.func92, Tryz.ntmps92
  go_wp2_with fail
  refine H.out.mono ?_
  rintro e w' ⟨⟨k, rfl, hk⟩, rfl⟩
  dsimp only
  have HK := hid hk
  clear hk
  go_wp2_with fail
  go_ret
  exact ⟨by rw [← HK.out]; rfl, rfl⟩
theorem zero_any (w : World) (a : Option Addr) (n c : Nat) (b : List UInt8) (h : Sl w a n c (byts b)) :
    Calls Tryz.prog 71 #[.slice a n c] w fun e w' => e = .returned (.bool (allZero b)) ∧ w = w' := by
  have H := hid (contains_any w a n c b h)
  clear h
  go_enter Tryz.func71, Tryz.ntmps71
  go_wp2_with fail
  refine H.out.mono ?_
  rintro e w' ⟨rfl, rfl⟩
  dsimp only
  go_wp2_with fail
  go_ret
  exact ⟨by cases allZero b <;> rfl, rfl⟩

set_option maxHeartbeats 1000000 in
theorem run_any (wb w : World) (R : HP) (h : Mem wb w R) (lo hi : Nat) (hhi : hi ≤ 100000) :
    Calls Tryz.prog 72 #[.int .i64 (lo : Int), .int .i64 (hi : Int)] w fun e w' => ∃ a c, e = .returned (.slice a (hi - lo) c) ∧ Mem wb w' (row 3 1 a (hi - lo) c (nums (runOf lo hi)) * R) := by
  obtain ⟨i0, hi0, hz0, hz1, hz2⟩ := info_parts i64info
  have HI := hid (And.intro hi0 (And.intro hz0 (And.intro hz1 hz2)))
  have H := hid h
  clear h hi0 hz0 hz1 hz2
  go_enter Tryz.func72, Tryz.ntmps72
  go_wp2
  go_loopw [5, 6] (fun v i wr => ∃ (k : Nat) (a : Option Addr) (c : Nat), lo ≤ k ∧ (k ≤ hi ∨ k = lo) ∧ i = .int .i64 k ∧ v = .slice a (k - lo) c ∧ Mem wb wr (row 3 1 a (k - lo) c (nums (runOf lo k)) * R)) (fun _ i _ => hi - (intOf i).toNat)
  case atStart => exact ⟨lo, none, 0, by omega, .inr rfl, rfl, by rw [Nat.sub_self], by rw [Nat.sub_self]; exact Mem.row_none.2 ⟨rfl, rfl, by simp [runOf, nums], H.out⟩⟩
  case round =>
    obtain ⟨k, a, c, hk1, hk2, rfl, rfl, hm⟩ := hrel
    have HM := hid hm
    clear H hm
    by_cases hlt : k < hi
    · obtain ⟨hi0, hz0, hz1, hz2⟩ := HI.out
      have hmA := HM.out.alloc [.int .i64 (k : Int)] 3
      have hx := hmA.eq (sep_left_comm _ _ _)
      have kn : (k : Int) < (hi : Int) := by omega
      go_wp2_with ((with_reducible show wpList _ _ _ (Oper.mk (some 16) _ _ _ _ _ :: _) _ _); refine wpList_append (by rfl) (.tmp 13) (.tmp 15) 102 (by rfl) Tryz.underlying102 hi0 hz0 hz1 hz2 rfl (by omega) (by rfl) (by rfl) hx (by rfl) rfl (news_built hmA.blk.1) (fun h => by cases h) (by simp [Value.oneCell']) (by omega) (by omega) ?_; intro a' c' w2 hm2 _ _; clear hi0 hz0 hz1 hz2 hmA hx)
      have hm3 := hm2.duo_row.p1.right
      rw [show nums (runOf lo k) ++ [Value.int .i64 (k : Int)] = nums (runOf lo (k + 1)) by rw [runOf_snoc lo k hk1, nums_append]; rfl, show k - lo + 1 = k + 1 - lo by omega] at hm3
      have HM3 := hid hm3
      clear hm2 hm3 HM
      rw [show k - lo + 1 = k + 1 - lo by omega]
      go_wp2_with fail
      go_roundw
      case rel => exact ⟨k + 1, a', c', by omega, .inl (by omega), by go_num, rfl, HM3.out⟩
      case measure => simp [intOf] <;> omega
    · have e1 : k - lo = hi - lo := by omega
      have e2 : runOf lo k = runOf lo hi := by unfold runOf; rw [e1]
      have hm2 := HM.out
      rw [e1, e2] at hm2
      have HM2 := hid hm2
      rw [e1]
      clear HM hm2 e1 e2
      go_wp2_with fail
      go_ret
      exact ⟨_, _, rfl, HM2.out⟩
theorem log_any (wb w : World) (R : HP) (h : Mem wb w R) (d : Value) (p : Nat) (hp : p ≤ 250) :
    Calls Tryz.prog 45 #[.agg #[d, .int .i64 (p : Int)]] w fun e w' => ∃ a c, e = .returned (.slice a (2 * p + 1) c) ∧ Mem wb w' (row 3 1 a (2 * p + 1) c (nums (runOf 0 (2 * p + 1))) * R) := by
  have H := hid (run_any wb _ _ (h.alloc' (.cells #[d, .int .i64 (p : Int)] 84)) 0 (2 * p + 1) (by omega))
  clear h
  have e1 : ((2 * p + 1 : Nat) : Int) = 2 * (p : Int) + 1 := by omega
  rw [e1, Nat.sub_zero] at H
  clear e1
  go_enter Tryz.func45, Tryz.ntmps45
  go_wp2_with fail
  refine H.out.mono ?_
  rintro e w2 ⟨a, c, rfl, hm⟩
  dsimp only
  have HM := hid hm
  clear hm
  go_wp2_with fail
  go_ret
  exact ⟨_, _, rfl, HM.out⟩
/-- an error with the call that met it around it -/
theorem fault_any (wb w : World) (R : HP) (h : Mem wb w R) (s : ByteArray) (at' c : Int) :
    Calls Tryz.prog 29 #[.string s, .int .i64 at', .int .i64 c] w fun e w' => ∃ g, e = .returned (.iface 53 (.pointer (some ⟨g, 0, none⟩))) ∧ Mem wb w' (pts g 55 [.string s, .int .i64 at', .iface 49 (.int .i64 c)] * R) := by
  have H := hid (h.alloc [.string s, .int .i64 at', .iface 49 (.int .i64 c)] 55)
  clear h
  go_enter Tryz.func29, Tryz.ntmps29
  go_wp2
  go_ret
  exact ⟨_, rfl, H.out⟩
end Go.Proofs.YtpaebopmppbjbaaGreatDoor

/- The walk of wal's both. -/
set_option linter.unusedVariables false
set_option linter.unusedSimpArgs false
namespace Go.Proofs.YtpaebopmppbjbaaGreatDoor
open Go Go.RowKit Go.Le

set_option maxRecDepth 20000 in
set_option maxHeartbeats 2000000 in
theorem both_any (wb w0 : World) (R : HP) (g : Nat) (D : Dev) (h : Mem wb w0 (devAt T8 g D * R)) (hpl : D.pend.length ≤ 900000000) (i : Nat) (hi : i ≤ 900000000) (p : Int) (b o c : Nat) (pg : List UInt8) (hpg : pg.length = 1024) (hc : 1024 ≤ c) (hc2 : c ≤ 9223372036854775807)
    (hs : ∀ w', Mem wb w' R → Sl w' (some ⟨b, o, none⟩) 1024 c (byts pg)) :
    Calls Tryz.prog 56 #[.agg #[.pointer (some ⟨g, 0, none⟩), .int .i64 p], .int .i64 (i : Int), .slice (some ⟨b, o, none⟩) 1024 c] w0 (IoSays wb g R (ioBoth i pg D) unitB) := by
  have HM := hid ((h.alloc [.pointer (some ⟨g, 0, none⟩), .int .i64 p] 84).eq (by ac_rfl) : Mem wb _ (devAt T8 g D * (pts w0.heap.size 84 [.pointer (some ⟨g, 0, none⟩), .int .i64 p] * R)))
  have HS : Hid (∀ w', Mem wb w' R → Sl w' (some ⟨b, o, none⟩) 1024 c (byts pg)) := hs
  have HW1 : Hid (∀ w R', Mem wb w (devAt T8 g D * R') → Sl w (some ⟨b, o, none⟩) 1024 c (byts pg) → Calls Tryz.prog 59 #[.agg #[.pointer (some ⟨g, 0, none⟩), .int .i64 p], .int .i64 (i : Int), .slice (some ⟨b, o, none⟩) 512 c] w (IoSays wb g R' (ioWrite i (pg.take 512) D) unitB)) := by
    show ∀ w R', _
    intro w R' hm hsl
    have h1 := hsl.take 512 (by omega)
    rw [byts_take] at h1
    exact dwrite_any wb w R' g D hm (by omega) i (by omega) p _ 512 c _ h1
  have c512 : ¬ c < 512 := by omega
  have c512' : 512 ≤ c := by omega
  have c512i : ¬ (c : Int) < 512 := by omega
  have c512n : (c = 512) = False := by simp; omega
  have c5122 : ¬ (1024 : Nat) < 512 := by omega
  have wi : IntKind.i64.wrap ((i : Int) + 1) = (i : Int) + 1 := IntWalk.i64_in _ (by omega)
  have WI := hid wi
  clear h hs wi
  obtain ⟨r1, HR1⟩ : ∃ r, Hid (ioWrite i (pg.take 512) D = r) := ⟨_, hid rfl⟩
  have HG : Hid (r1.2.pend.length ≤ D.pend.length + 1) := by rw [← HR1.out]; exact hid (Io.Grows.write i (pg.take 512) D)
  rw [HR1.out] at HW1
  rcases r1 with ⟨c1 | u1, D1⟩
  · have HI : Hid (ioBoth i pg D = (.error c1, D1)) := hid (Io.and_error HR1.out)
    clear HR1 HG hpl hi hc hc2 hpg c512n
    go_enter Tryz.func56, Tryz.ntmps56
    go_wp2_with fail
    refine region_mem (by kernel_rfl) (V := fun jv x => match jv with | 0 => x = (.agg #[.pointer (some ⟨g, 0, none⟩), .int .i64 p] : Value) | 1 => x = (.int .i64 (i : Int) : Value) | 2 => x = (.slice (some ⟨b, o, none⟩) 1024 c : Value) | 3 => x = (.slice (some ⟨b, o, none⟩) 512 c : Value) | 4 => False | _ => True) (A := (fun L => (if L 4 then devAt T8 g D1 else devAt T8 g D) * (pts w0.heap.size 84 [.pointer (some ⟨g, 0, none⟩), .int .i64 p] * R))) (Bs := []) HM.out (fun L L' h => by show (if L 4 then _ else _) * _ = (if L' 4 then _ else _) * _; rw [h 4 (by decide)]) (show ([] : List Nat).Nodup by decide) (by kernel_rfl) (by kernel_rfl) ?_ ?_
    · refine ⟨?_, ?_, ?_, ?_, ?_, trivial⟩
      · refine Fine2.run trivial _ rfl (fun _ => rfl) rfl rfl (fun L a w R' hw hm hmk hf => ?_)
        have e3 : a.eval (.tmp 3) = (.pointer (some ⟨w0.heap.size, 0, none⟩) : Value) := (hf 3 (by decide +kernel)).old (by kernel_rfl)
        simp only [Act.eval, Array.getD_eq_getD_getElem?] at e3
        have hbx := hm.left.right
        have q0 := hbx.cell 0
        have q1 := hbx.cell 1
        simp only [List.getElem?_cons_zero, List.getElem?_cons_succ] at q0 q1
        simp [execOp, resolve, invoke, builtin, go_sem, e3, q0, q1]
      · refine Fine2.run trivial _ rfl (fun _ => rfl) rfl rfl (fun L a w R' hw hm hmk hf => ?_)
        have e1 : a.eval (.tmp 1) = (.int .i64 (i : Int) : Value) := (hf 1 (by decide +kernel)).old (by kernel_rfl)
        simp only [Act.eval, Array.getD_eq_getD_getElem?] at e1
        simp [execOp, resolve, invoke, builtin, go_sem, e1]
      · refine Fine2.run trivial _ rfl (fun _ => rfl) rfl rfl (fun L a w R' hw hm hmk hf => ?_)
        have e2 : a.eval (.tmp 2) = (.slice (some ⟨b, o, none⟩) 1024 c : Value) := (hf 2 (by decide +kernel)).old (by kernel_rfl)
        simp only [Act.eval, Array.getD_eq_getD_getElem?] at e2
        simp [execOp, resolve, invoke, builtin, go_sem, e2]
      · refine Fine2.run trivial _ rfl (fun _ => rfl) rfl rfl (fun L a w R' hw hm hmk hf => ?_)
        have e8 : a.eval (.tmp 8) = (.slice (some ⟨b, o, none⟩) 1024 c : Value) := (hf 8 (by decide +kernel)).new 2 (by kernel_rfl) (by kernel_rfl)
        simp only [Act.eval, Array.getD_eq_getD_getElem?] at e8
        simp [execOp, resolve, invoke, builtin, go_sem, e8, c512, c512', c512i]
      · refine Fine2.callP trivial rfl 59 #[(.agg #[.pointer (some ⟨g, 0, none⟩), .int .i64 p]), (.int .i64 (i : Int)), (.slice (some ⟨b, o, none⟩) 512 c)] (fun a w hf => ?_) (fun L a w R' hL hw hm hmk hf hdf hcl => ?_)
        · have e6 : a.eval (.tmp 6) = (.agg #[.pointer (some ⟨g, 0, none⟩), .int .i64 p] : Value) := (hf 6 (by decide +kernel)).new 0 (by kernel_rfl) (by kernel_rfl)
          have e7 : a.eval (.tmp 7) = (.int .i64 (i : Int) : Value) := (hf 7 (by decide +kernel)).new 1 (by kernel_rfl) (by kernel_rfl)
          have e9 : a.eval (.tmp 9) = (.slice (some ⟨b, o, none⟩) 512 c : Value) := (hf 9 (by decide +kernel)).new 3 (by kernel_rfl) (by kernel_rfl)
          simp only [Act.eval, Array.getD_eq_getD_getElem?] at e6 e7 e9
          simp [execOp, resolve, invoke, go_sem, e6, e7, e9]
        · have hm : Mem wb w ((if L 4 then devAt T8 g D1 else devAt T8 g D) * (pts w0.heap.size 84 [.pointer (some ⟨g, 0, none⟩), .int .i64 p] * R) * R') := hm
          rw [hL] at hm
          have hm : Mem wb w (devAt T8 g D * (pts w0.heap.size 84 [.pointer (some ⟨g, 0, none⟩), .int .i64 p] * R) * R') := hm
          refine (HW1.out w (pts w0.heap.size 84 [.pointer (some ⟨g, 0, none⟩), .int .i64 p] * R * R') (hm.eq (by ac_rfl)) (HS.out w hm.left.right.right)).mono ?_
          intro e w' hs'
          obtain ⟨rfl, hc, hm'⟩ := hs'.error rfl
          exact .inr ⟨_, rfl, hdf, IoSays.mkError HI.out hc (hm'.eq (by ac_rfl) : Mem wb w' (pts w0.heap.size 84 [.pointer (some ⟨g, 0, none⟩), .int .i64 p] * R' * (devAt T8 g D1 * R))).right⟩
    · intro u w9 hu hm9
      exact absurd (hu 10 4 rfl) (fun h => h)
  · have HW2 : Hid (∀ w R', Mem wb w (devAt T8 g D1 * R') → Sl w (some ⟨b, o, none⟩) 1024 c (byts pg) → Calls Tryz.prog 59 #[.agg #[.pointer (some ⟨g, 0, none⟩), .int .i64 p], .int .i64 ((i : Int) + 1), .slice (some ⟨b, o + 512, none⟩) 512 (c - 512)] w (IoSays wb g R' (ioWrite (i + 1) (pg.drop 512) D1) unitB)) := by
      show ∀ w R', _
      intro w R' hm hsl
      have h1 := hsl.cut2 512 1024 (some ⟨b, o + 512, none⟩) 512 (c - 512) (by omega) (by omega) (by rw [if_neg (by omega)]; simp [Addr.add]) (by omega) rfl
      rw [byts_take, byts_drop, List.take_of_length_le (by omega)] at h1
      have hw := dwrite_any wb w R' g D1 hm (by have := HG.out; first | omega | (simp only at this; omega)) (i + 1) (by omega) p _ 512 (c - 512) _ h1
      rw [show ((i + 1 : Nat) : Int) = (i : Int) + 1 by omega] at hw
      exact hw
    have HC := hid c512n
    have HB : Hid (ioBoth i pg D = ioWrite (i + 1) (pg.drop 512) D1) := hid (Io.and_ok HR1.out)
    clear hpg HG c512n HR1
    go_enter Tryz.func56, Tryz.ntmps56
    go_wp2_with fail
    refine region_mem (by kernel_rfl) (V := fun jv x => match jv with | 0 => x = (.agg #[.pointer (some ⟨g, 0, none⟩), .int .i64 p] : Value) | 1 => x = (.int .i64 (i : Int) : Value) | 2 => x = (.slice (some ⟨b, o, none⟩) 1024 c : Value) | 3 => x = (.slice (some ⟨b, o, none⟩) 512 c : Value) | 4 => x = (.tuple #[] : Value) | _ => True) (A := (fun L => (if L 4 then devAt T8 g D1 else devAt T8 g D) * (pts w0.heap.size 84 [.pointer (some ⟨g, 0, none⟩), .int .i64 p] * R))) (Bs := []) HM.out (fun L L' h => by show (if L 4 then _ else _) * _ = (if L' 4 then _ else _) * _; rw [h 4 (by decide)]) (show ([] : List Nat).Nodup by decide) (by kernel_rfl) (by kernel_rfl) ?_ ?_
    · refine ⟨?_, ?_, ?_, ?_, ?_, trivial⟩
      · refine Fine2.run trivial _ rfl (fun _ => rfl) rfl rfl (fun L a w R' hw hm hmk hf => ?_)
        have e3 : a.eval (.tmp 3) = (.pointer (some ⟨w0.heap.size, 0, none⟩) : Value) := (hf 3 (by decide +kernel)).old (by kernel_rfl)
        simp only [Act.eval, Array.getD_eq_getD_getElem?] at e3
        have hbx := hm.left.right
        have q0 := hbx.cell 0
        have q1 := hbx.cell 1
        simp only [List.getElem?_cons_zero, List.getElem?_cons_succ] at q0 q1
        simp [execOp, resolve, invoke, builtin, go_sem, e3, q0, q1]
      · refine Fine2.run trivial _ rfl (fun _ => rfl) rfl rfl (fun L a w R' hw hm hmk hf => ?_)
        have e1 : a.eval (.tmp 1) = (.int .i64 (i : Int) : Value) := (hf 1 (by decide +kernel)).old (by kernel_rfl)
        simp only [Act.eval, Array.getD_eq_getD_getElem?] at e1
        simp [execOp, resolve, invoke, builtin, go_sem, e1]
      · refine Fine2.run trivial _ rfl (fun _ => rfl) rfl rfl (fun L a w R' hw hm hmk hf => ?_)
        have e2 : a.eval (.tmp 2) = (.slice (some ⟨b, o, none⟩) 1024 c : Value) := (hf 2 (by decide +kernel)).old (by kernel_rfl)
        simp only [Act.eval, Array.getD_eq_getD_getElem?] at e2
        simp [execOp, resolve, invoke, builtin, go_sem, e2]
      · refine Fine2.run trivial _ rfl (fun _ => rfl) rfl rfl (fun L a w R' hw hm hmk hf => ?_)
        have e8 : a.eval (.tmp 8) = (.slice (some ⟨b, o, none⟩) 1024 c : Value) := (hf 8 (by decide +kernel)).new 2 (by kernel_rfl) (by kernel_rfl)
        simp only [Act.eval, Array.getD_eq_getD_getElem?] at e8
        simp [execOp, resolve, invoke, builtin, go_sem, e8, c512, c512', c512i]
      · refine Fine2.callP trivial rfl 59 #[(.agg #[.pointer (some ⟨g, 0, none⟩), .int .i64 p]), (.int .i64 (i : Int)), (.slice (some ⟨b, o, none⟩) 512 c)] (fun a w hf => ?_) (fun L a w R' hL hw hm hmk hf hdf hcl => ?_)
        · have e6 : a.eval (.tmp 6) = (.agg #[.pointer (some ⟨g, 0, none⟩), .int .i64 p] : Value) := (hf 6 (by decide +kernel)).new 0 (by kernel_rfl) (by kernel_rfl)
          have e7 : a.eval (.tmp 7) = (.int .i64 (i : Int) : Value) := (hf 7 (by decide +kernel)).new 1 (by kernel_rfl) (by kernel_rfl)
          have e9 : a.eval (.tmp 9) = (.slice (some ⟨b, o, none⟩) 512 c : Value) := (hf 9 (by decide +kernel)).new 3 (by kernel_rfl) (by kernel_rfl)
          simp only [Act.eval, Array.getD_eq_getD_getElem?] at e6 e7 e9
          simp [execOp, resolve, invoke, go_sem, e6, e7, e9]
        · have hm : Mem wb w ((if L 4 then devAt T8 g D1 else devAt T8 g D) * (pts w0.heap.size 84 [.pointer (some ⟨g, 0, none⟩), .int .i64 p] * R) * R') := hm
          rw [hL] at hm
          have hm : Mem wb w (devAt T8 g D * (pts w0.heap.size 84 [.pointer (some ⟨g, 0, none⟩), .int .i64 p] * R) * R') := hm
          refine (HW1.out w (pts w0.heap.size 84 [.pointer (some ⟨g, 0, none⟩), .int .i64 p] * R * R') (hm.eq (by ac_rfl)) (HS.out w hm.left.right.right)).mono ?_
          intro e w' hs'
          obtain ⟨rfl, hm'⟩ := hs'.unit rfl
          refine .inl ⟨_, rfl, rfl, ?_⟩
          show Mem wb w' ((if doneSet L 4 4 then devAt T8 g D1 else devAt T8 g D) * (pts w0.heap.size 84 [.pointer (some ⟨g, 0, none⟩), .int .i64 p] * R) * (emp * R'))
          rw [show doneSet L 4 4 = true from rfl, emp_sep]
          exact hm'.eq (by show _ = devAt T8 g D1 * (pts w0.heap.size 84 [.pointer (some ⟨g, 0, none⟩), .int .i64 p] * R) * R'; ac_rfl)
    · intro u w9 hu hm9
      have HM : Hid (Mem wb w9 (devAt T8 g D1 * (pts w0.heap.size 84 [.pointer (some ⟨g, 0, none⟩), .int .i64 p] * R))) := by
        have h9 : Mem wb w9 ((devAt T8 g D1 * (pts w0.heap.size 84 [.pointer (some ⟨g, 0, none⟩), .int .i64 p] * R)) * emp) := hm9
        rw [sep_emp] at h9
        exact hid h9
      simp only [putAll]
      clear hm9 hu HW1
      obtain ⟨r2, HR2⟩ : ∃ r, Hid (ioWrite (i + 1) (pg.drop 512) D1 = r) := ⟨_, hid rfl⟩
      have HI : Hid (ioBoth i pg D = r2) := hid (HB.out.trans HR2.out)
      rw [HR2.out] at HW2
      clear HR2 HB
      rcases r2 with ⟨c2 | u2, D2⟩
      · have HE : Hid (((.error c2, D2) : Except Int Unit × Dev) = (.error c2, D2)) := hid rfl
        go_simp
        go_wp2_with fail
        have wi := WI.out
        have c512n := HC.out
        refine region_mem (by kernel_rfl) (V := fun jv x => match jv with | 0 => x = (.agg #[.pointer (some ⟨g, 0, none⟩), .int .i64 p] : Value) | 1 => x = (.int .i64 (i : Int) : Value) | 2 => x = (.int .i64 ((i : Int) + 1) : Value) | 3 => x = (.slice (some ⟨b, o, none⟩) 1024 c : Value) | 4 => x = (.slice (some ⟨b, o + 512, none⟩) 512 (c - 512) : Value) | 5 => False | _ => True) (A := (fun L => (if L 5 then devAt T8 g D2 else devAt T8 g D1) * (pts w0.heap.size 84 [.pointer (some ⟨g, 0, none⟩), .int .i64 p] * R))) (Bs := []) HM.out (fun L L' h => by show (if L 5 then _ else _) * _ = (if L' 5 then _ else _) * _; rw [h 5 (by decide)]) (show ([] : List Nat).Nodup by decide) (by kernel_rfl) (by kernel_rfl) ?_ ?_
        · refine ⟨?_, ?_, ?_, ?_, ?_, ?_, trivial⟩
          · refine Fine2.run trivial _ rfl (fun _ => rfl) rfl rfl (fun L a w R' hw hm hmk hf => ?_)
            have e3 : a.eval (.tmp 3) = (.pointer (some ⟨w0.heap.size, 0, none⟩) : Value) := (hf 3 (by decide +kernel)).old (by kernel_rfl)
            simp only [Act.eval, Array.getD_eq_getD_getElem?] at e3
            have hbx := hm.left.right
            have q0 := hbx.cell 0
            have q1 := hbx.cell 1
            simp only [List.getElem?_cons_zero, List.getElem?_cons_succ] at q0 q1
            simp [execOp, resolve, invoke, builtin, go_sem, e3, q0, q1]
          · refine Fine2.run trivial _ rfl (fun _ => rfl) rfl rfl (fun L a w R' hw hm hmk hf => ?_)
            have e1 : a.eval (.tmp 1) = (.int .i64 (i : Int) : Value) := (hf 1 (by decide +kernel)).old (by kernel_rfl)
            simp only [Act.eval, Array.getD_eq_getD_getElem?] at e1
            simp [execOp, resolve, invoke, builtin, go_sem, e1]
          · refine Fine2.run trivial _ rfl (fun _ => rfl) rfl rfl (fun L a w R' hw hm hmk hf => ?_)
            have e12 : a.eval (.tmp 12) = (.int .i64 (i : Int) : Value) := (hf 12 (by decide +kernel)).new 1 (by kernel_rfl) (by kernel_rfl)
            simp only [Act.eval, Array.getD_eq_getD_getElem?] at e12
            simp [execOp, resolve, invoke, builtin, go_sem, e12, wi]
          · refine Fine2.run trivial _ rfl (fun _ => rfl) rfl rfl (fun L a w R' hw hm hmk hf => ?_)
            have e2 : a.eval (.tmp 2) = (.slice (some ⟨b, o, none⟩) 1024 c : Value) := (hf 2 (by decide +kernel)).old (by kernel_rfl)
            simp only [Act.eval, Array.getD_eq_getD_getElem?] at e2
            simp [execOp, resolve, invoke, builtin, go_sem, e2]
          · refine Fine2.run trivial _ rfl (fun _ => rfl) rfl rfl (fun L a w R' hw hm hmk hf => ?_)
            have e14 : a.eval (.tmp 14) = (.slice (some ⟨b, o, none⟩) 1024 c : Value) := (hf 14 (by decide +kernel)).new 3 (by kernel_rfl) (by kernel_rfl)
            simp only [Act.eval, Array.getD_eq_getD_getElem?] at e14
            simp [execOp, resolve, invoke, builtin, go_sem, e14, c5122, c512n]
          · refine Fine2.callP trivial rfl 59 #[(.agg #[.pointer (some ⟨g, 0, none⟩), .int .i64 p]), (.int .i64 ((i : Int) + 1)), (.slice (some ⟨b, o + 512, none⟩) 512 (c - 512))] (fun a w hf => ?_) (fun L a w R' hL hw hm hmk hf hdf hcl => ?_)
            · have e11 : a.eval (.tmp 11) = (.agg #[.pointer (some ⟨g, 0, none⟩), .int .i64 p] : Value) := (hf 11 (by decide +kernel)).new 0 (by kernel_rfl) (by kernel_rfl)
              have e13 : a.eval (.tmp 13) = (.int .i64 ((i : Int) + 1) : Value) := (hf 13 (by decide +kernel)).new 2 (by kernel_rfl) (by kernel_rfl)
              have e15 : a.eval (.tmp 15) = (.slice (some ⟨b, o + 512, none⟩) 512 (c - 512) : Value) := (hf 15 (by decide +kernel)).new 4 (by kernel_rfl) (by kernel_rfl)
              simp only [Act.eval, Array.getD_eq_getD_getElem?] at e11 e13 e15
              simp [execOp, resolve, invoke, go_sem, e11, e13, e15]
            · have hm : Mem wb w ((if L 5 then devAt T8 g D2 else devAt T8 g D1) * (pts w0.heap.size 84 [.pointer (some ⟨g, 0, none⟩), .int .i64 p] * R) * R') := hm
              rw [hL] at hm
              have hm : Mem wb w (devAt T8 g D1 * (pts w0.heap.size 84 [.pointer (some ⟨g, 0, none⟩), .int .i64 p] * R) * R') := hm
              refine (HW2.out w (pts w0.heap.size 84 [.pointer (some ⟨g, 0, none⟩), .int .i64 p] * R * R') (hm.eq (by ac_rfl)) (HS.out w hm.left.right.right)).mono ?_
              intro e w' hs'
              obtain ⟨rfl, hc, hm'⟩ := hs'.error rfl
              exact .inr ⟨_, rfl, hdf, IoSays.mkError HI.out hc (hm'.eq (by ac_rfl) : Mem wb w' (pts w0.heap.size 84 [.pointer (some ⟨g, 0, none⟩), .int .i64 p] * R' * (devAt T8 g D2 * R))).right⟩
        · intro u w9 hu hm9
          exact absurd (hu 16 5 rfl) (fun h => h)
      · have HE : Hid (((.ok u2, D2) : Except Int Unit × Dev) = (.ok (), D2)) := hid rfl
        go_simp
        go_wp2_with fail
        have wi := WI.out
        have c512n := HC.out
        refine region_mem (by kernel_rfl) (V := fun jv x => match jv with | 0 => x = (.agg #[.pointer (some ⟨g, 0, none⟩), .int .i64 p] : Value) | 1 => x = (.int .i64 (i : Int) : Value) | 2 => x = (.int .i64 ((i : Int) + 1) : Value) | 3 => x = (.slice (some ⟨b, o, none⟩) 1024 c : Value) | 4 => x = (.slice (some ⟨b, o + 512, none⟩) 512 (c - 512) : Value) | 5 => x = (.tuple #[] : Value) | _ => True) (A := (fun L => (if L 5 then devAt T8 g D2 else devAt T8 g D1) * (pts w0.heap.size 84 [.pointer (some ⟨g, 0, none⟩), .int .i64 p] * R))) (Bs := []) HM.out (fun L L' h => by show (if L 5 then _ else _) * _ = (if L' 5 then _ else _) * _; rw [h 5 (by decide)]) (show ([] : List Nat).Nodup by decide) (by kernel_rfl) (by kernel_rfl) ?_ ?_
        · refine ⟨?_, ?_, ?_, ?_, ?_, ?_, trivial⟩
          · refine Fine2.run trivial _ rfl (fun _ => rfl) rfl rfl (fun L a w R' hw hm hmk hf => ?_)
            have e3 : a.eval (.tmp 3) = (.pointer (some ⟨w0.heap.size, 0, none⟩) : Value) := (hf 3 (by decide +kernel)).old (by kernel_rfl)
            simp only [Act.eval, Array.getD_eq_getD_getElem?] at e3
            have hbx := hm.left.right
            have q0 := hbx.cell 0
            have q1 := hbx.cell 1
            simp only [List.getElem?_cons_zero, List.getElem?_cons_succ] at q0 q1
            simp [execOp, resolve, invoke, builtin, go_sem, e3, q0, q1]
          · refine Fine2.run trivial _ rfl (fun _ => rfl) rfl rfl (fun L a w R' hw hm hmk hf => ?_)
            have e1 : a.eval (.tmp 1) = (.int .i64 (i : Int) : Value) := (hf 1 (by decide +kernel)).old (by kernel_rfl)
            simp only [Act.eval, Array.getD_eq_getD_getElem?] at e1
            simp [execOp, resolve, invoke, builtin, go_sem, e1]
          · refine Fine2.run trivial _ rfl (fun _ => rfl) rfl rfl (fun L a w R' hw hm hmk hf => ?_)
            have e12 : a.eval (.tmp 12) = (.int .i64 (i : Int) : Value) := (hf 12 (by decide +kernel)).new 1 (by kernel_rfl) (by kernel_rfl)
            simp only [Act.eval, Array.getD_eq_getD_getElem?] at e12
            simp [execOp, resolve, invoke, builtin, go_sem, e12, wi]
          · refine Fine2.run trivial _ rfl (fun _ => rfl) rfl rfl (fun L a w R' hw hm hmk hf => ?_)
            have e2 : a.eval (.tmp 2) = (.slice (some ⟨b, o, none⟩) 1024 c : Value) := (hf 2 (by decide +kernel)).old (by kernel_rfl)
            simp only [Act.eval, Array.getD_eq_getD_getElem?] at e2
            simp [execOp, resolve, invoke, builtin, go_sem, e2]
          · refine Fine2.run trivial _ rfl (fun _ => rfl) rfl rfl (fun L a w R' hw hm hmk hf => ?_)
            have e14 : a.eval (.tmp 14) = (.slice (some ⟨b, o, none⟩) 1024 c : Value) := (hf 14 (by decide +kernel)).new 3 (by kernel_rfl) (by kernel_rfl)
            simp only [Act.eval, Array.getD_eq_getD_getElem?] at e14
            simp [execOp, resolve, invoke, builtin, go_sem, e14, c5122, c512n]
          · refine Fine2.callP trivial rfl 59 #[(.agg #[.pointer (some ⟨g, 0, none⟩), .int .i64 p]), (.int .i64 ((i : Int) + 1)), (.slice (some ⟨b, o + 512, none⟩) 512 (c - 512))] (fun a w hf => ?_) (fun L a w R' hL hw hm hmk hf hdf hcl => ?_)
            · have e11 : a.eval (.tmp 11) = (.agg #[.pointer (some ⟨g, 0, none⟩), .int .i64 p] : Value) := (hf 11 (by decide +kernel)).new 0 (by kernel_rfl) (by kernel_rfl)
              have e13 : a.eval (.tmp 13) = (.int .i64 ((i : Int) + 1) : Value) := (hf 13 (by decide +kernel)).new 2 (by kernel_rfl) (by kernel_rfl)
              have e15 : a.eval (.tmp 15) = (.slice (some ⟨b, o + 512, none⟩) 512 (c - 512) : Value) := (hf 15 (by decide +kernel)).new 4 (by kernel_rfl) (by kernel_rfl)
              simp only [Act.eval, Array.getD_eq_getD_getElem?] at e11 e13 e15
              simp [execOp, resolve, invoke, go_sem, e11, e13, e15]
            · have hm : Mem wb w ((if L 5 then devAt T8 g D2 else devAt T8 g D1) * (pts w0.heap.size 84 [.pointer (some ⟨g, 0, none⟩), .int .i64 p] * R) * R') := hm
              rw [hL] at hm
              have hm : Mem wb w (devAt T8 g D1 * (pts w0.heap.size 84 [.pointer (some ⟨g, 0, none⟩), .int .i64 p] * R) * R') := hm
              refine (HW2.out w (pts w0.heap.size 84 [.pointer (some ⟨g, 0, none⟩), .int .i64 p] * R * R') (hm.eq (by ac_rfl)) (HS.out w hm.left.right.right)).mono ?_
              intro e w' hs'
              obtain ⟨rfl, hm'⟩ := hs'.unit rfl
              refine .inl ⟨_, rfl, rfl, ?_⟩
              show Mem wb w' ((if doneSet L 5 5 then devAt T8 g D2 else devAt T8 g D1) * (pts w0.heap.size 84 [.pointer (some ⟨g, 0, none⟩), .int .i64 p] * R) * (emp * R'))
              rw [show doneSet L 5 5 = true from rfl, emp_sep]
              exact hm'.eq (by show _ = devAt T8 g D2 * (pts w0.heap.size 84 [.pointer (some ⟨g, 0, none⟩), .int .i64 p] * R) * R'; ac_rfl)
        · intro u w9 hu hm9
          have HM : Hid (Mem wb w9 (devAt T8 g D2 * R)) := by
            have h9 : Mem wb w9 ((devAt T8 g D2 * (pts w0.heap.size 84 [.pointer (some ⟨g, 0, none⟩), .int .i64 p] * R)) * emp) := hm9
            rw [sep_emp] at h9
            exact hid h9.p1.right
          simp only [putAll]
          clear hm9 hu HW2 wi c512n
          go_simp
          go_end0
          exact IoSays.mkUnit HI.out HM.out
end Go.Proofs.YtpaebopmppbjbaaGreatDoor

/- The walks of wal's falls, marked. -/
set_option linter.unusedVariables false
set_option linter.unusedSimpArgs false
namespace Go.Le
open Go Go.RowKit
theorem byts_set (l : List UInt8) (k : Nat) (x : UInt8) : (byts l).set k (.int .u8 (x.toNat : Int)) = byts (l.set k x) := by simp [byts, byt, List.map_set]
/-- a row written into, folded again -/
theorem Mem.row_set {wb w : World} {R : HP} {u : TypeId} {g n c k : Nat} {l : List UInt8} {rest : List Value} (x : UInt8) (h : Mem wb w (pts g u (byts l ++ rest) * R)) (hk : k < l.length) (hn : l.length = n) (hc : n ≤ c) (hc2 : c ≤ 9223372036854775807) (hr : c * 1 ≤ (byts l).length + rest.length) :
    Mem wb (w.setCell ⟨g, k, none⟩ (.int .u8 (x.toNat : Int))) (row u 1 (some ⟨g, 0, none⟩) n c (byts (l.set k x)) * R) := by
  have h1 := h.setCell k (.int .u8 (x.toNat : Int))
  rw [List.set_append_left _ _ (by rw [byts_length]; exact hk), byts_set] at h1
  exact Mem.of_row rfl (by rw [byts_length, List.length_set]; omega) hc hc2 (by rw [byts_length, List.length_set]; rw [byts_length] at hr; omega) h1
end Go.Le
namespace Go.Proofs.YtpaebopmppbjbaaGreatDoor
open Go Go.RowKit Go.Le

set_option maxRecDepth 20000 in
set_option maxHeartbeats 2000000 in
theorem falls_any (wb w : World) (R : HP) (g : Nat) (D : Dev) (a : Option Addr) (c : Nat) (m : List UInt8) (hml : m.length = 512) (h : Mem wb w (devAt T8 g D * (row 5 1 a 512 c (byts m) * R))) (hpl : D.pend.length ≤ 900000000) (p : Int) :
    Calls Tryz.prog 60 #[.agg #[.pointer (some ⟨g, 0, none⟩), .int .i64 p], .slice a 512 c] w (IoSays wb g (row 5 1 a 512 c (byts (m.set 511 0)) * R) (ioFalls m D) unitB) := by
  have hbx := h.alloc [.pointer (some ⟨g, 0, none⟩), .int .i64 p] 84
  obtain ⟨gm, rest, rfl, r1, r2, r3, r4, hm⟩ := hbx.p2.row_at (by omega)
  have hc1 := hm.cell 511
  have hf1 := hm.frozen 511
  rw [List.getElem?_append_left (by rw [byts_length]; omega), List.getElem?_eq_getElem (by rw [byts_length]; omega)] at hc1
  have hm2 := Mem.row_set (k := 511) (n := 512) 0 hm (by omega) hml r2 r3 r4
  have hm3 := hm2.eq (by ac_rfl : _ = devAt T8 g D * (pts w.heap.size 84 [.pointer (some ⟨g, 0, none⟩), .int .i64 p] * (row 5 1 (some ⟨gm, 0, none⟩) 512 c (byts (m.set 511 0)) * R)))
  rw [show ((0 : UInt8).toNat : Int) = 0 from rfl] at hm2 hm3
  have hq := hm3.right
  have q0 := hq.cell 0
  have q1 := hq.cell 1
  simp only [List.getElem?_cons_zero, List.getElem?_cons_succ] at q0 q1
  have HW := hid (dwrite_any wb _ _ g D hm3 (by omega) 0 (by omega) p _ 512 c _ hm2.row_sl)
  have HBX : Hid (∀ w' R', Mem wb w' (pts w.heap.size 84 [.pointer (some ⟨g, 0, none⟩), .int .i64 p] * R') → w'.cell? ⟨w.heap.size, 0, none⟩ = some (.pointer (some ⟨g, 0, none⟩)) ∧ w'.cell? ⟨w.heap.size, 1, none⟩ = some (.int .i64 p)) := fun w' R' h => ⟨h.cell 0, h.cell 1⟩
  obtain ⟨x, hx⟩ : ∃ x, (byts m)[511]'(by rw [byts_length]; omega) = x := ⟨_, rfl⟩
  rw [hx] at hc1
  obtain ⟨r1', HR1⟩ : ∃ r, Hid (ioWrite 0 (m.set 511 0) D = r) := ⟨_, hid rfl⟩
  have HG : Hid (r1'.2.pend.length ≤ D.pend.length + 1) := by rw [← HR1.out]; exact hid (Io.Grows.write 0 _ D)
  rw [HR1.out] at HW
  have HHB := hid hbx
  have hm511 : ¬ (512 : Int) ≤ 511 := by omega
  clear h hbx hm hm2 hm3 hq hx r1 r4
  rcases r1' with ⟨e1 | u1, D1⟩
  · have HI : Hid (ioFalls m D = (.error e1, D1)) := hid (Io.and_error HR1.out)
    clear HR1 HG
    go_enter Tryz.func60, Tryz.ntmps60
    go_wp2_with fail
    refine HW.out.mono ?_
    intro e w2 hs
    obtain ⟨rfl, hc, hm⟩ := hs.error rfl
    dsimp only
    exact ⟨rfl, IoSays.mkError HI.out hc hm.p1.right⟩
  · have HB : Hid (ioFalls m D = ioFlush D1) := hid (Io.and_ok HR1.out)
    clear HR1
    go_enter Tryz.func60, Tryz.ntmps60
    go_wp2_with fail
    refine HW.out.mono ?_
    intro e w2 hs
    obtain ⟨rfl, hm⟩ := hs.unit rfl
    dsimp only
    have hbx2 := hm.p1
    obtain ⟨q0, q1⟩ := HBX.out w2 _ hbx2
    have HF := hid (dflush_any wb w2 _ g D1 hbx2.p1 (by have := HG.out; first | omega | (simp only at this; omega)) p)
    obtain ⟨r2', HR2⟩ : ∃ r, Hid (ioFlush D1 = r) := ⟨_, hid rfl⟩
    rw [HR2.out] at HF HB
    clear hm hbx2 HW hs HR2
    go_wp2_with fail
    refine HF.out.mono ?_
    intro e w3 hs
    rcases r2' with ⟨e2 | u2, D2⟩
    · obtain ⟨rfl, hc, hm⟩ := hs.error rfl
      dsimp only
      exact ⟨rfl, IoSays.mkError HB.out hc hm.p1.right⟩
    · obtain ⟨rfl, hm⟩ := hs.unit rfl
      dsimp only
      have HM := hid hm.p1.right
      clear hm hs
      go_wp2_with fail
      go_end0
      exact IoSays.mkUnit HB.out HM.out
end Go.Proofs.YtpaebopmppbjbaaGreatDoor

/- The walk of wal's marked. -/
set_option linter.unusedVariables false
set_option linter.unusedSimpArgs false
namespace Go.Le
open Go Go.RowKit
theorem and1_u8 (y : Nat) (hy : y < 256) : bits .and .u8 (y : Int) 1 = ((y % 2 : Nat) : Int) := by
  unfold bits
  have e : BitVec.ofInt IntKind.u8.bits (1 : Int) = (1#8 : BitVec 8) := rfl
  have a1 : BitVec.ofInt IntKind.u8.bits (y : Int) = BitVec.ofNat 8 y := by show BitVec.ofInt 8 _ = _; rw [BitVec.ofInt_natCast]
  rw [e, a1]
  show IntKind.u8.wrap (((BitVec.ofNat 8 y &&& 1#8).toNat : Nat) : Int) = _
  rw [BitVec.toNat_and, BitVec.toNat_ofNat, Nat.mod_eq_of_lt (by omega)]
  have e2 : y &&& 1 = y % 2 := Nat.and_two_pow_sub_one_eq_mod y 1
  show IntKind.u8.wrap (((y &&& 1 : Nat)) : Int) = _
  rw [e2]
  have : y % 2 < 2 := Nat.mod_lt _ (by omega)
  simp [IntKind.wrap, IntKind.bits, IntKind.signed]
  omega
theorem bit_u8 (x r : Nat) (hx : x < 256) : (bits .and .u8 ((x : Int) / 2 ^ r) 1 == 1) = (x / 2 ^ r % 2 == 1) := by
  have e : ((x : Int) / 2 ^ r) = ((x / 2 ^ r : Nat) : Int) := by simp
  have hlt : x / 2 ^ r < 256 := Nat.lt_of_le_of_lt (Nat.div_le_self _ _) hx
  rw [e, and1_u8 _ hlt, Bool.eq_iff_iff]
  simp only [beq_iff_eq]
  omega
theorem range_filter_snoc (f : Nat → Bool) (k : Nat) : (List.range (k + 1)).filter f = (List.range k).filter f ++ (if f k then [k] else []) := by
  rw [List.range_succ, List.filter_append]
  congr 1
  by_cases h : f k = true <;> simp [h]
end Go.Le
namespace Go.Proofs.YtpaebopmppbjbaaGreatDoor
open Go Go.RowKit Go.Le
/-- numbers, new -/
def numsB (l : List Nat) (v : Value) : HP := rowB 3 l.length (nums l) v

set_option maxRecDepth 20000 in
set_option maxHeartbeats 2000000 in
theorem marked_head (wb w : World) (R : HP) (g : Nat) (D : Dev) (a : Option Addr) (c : Nat) (m : List UInt8) (hml : m.length = 512) (h : Mem wb w (devAt T8 g D * R)) (hs : ∀ w', Mem wb w' R → Sl w' a 512 c (byts m)) (p : Nat) (hp : p ≤ 250)
    (hx : m.getD 511 0 = 0 ∨ (m.getD 511 0 ≠ 0 ∧ (m.getD 511 0 ≠ 1 ∨ allZero ((m.drop 32).take 479) = false))) :
    Calls Tryz.prog 70 #[.agg #[.pointer (some ⟨g, 0, none⟩), .int .i64 (p : Int)], .slice a 512 c] w (IoSays wb g R (ioOf (marked m p) D) numsB) := by
  have hbx := h.alloc [.pointer (some ⟨g, 0, none⟩), .int .i64 (p : Int)] 84
  have hsl := hs _ hbx.right.right
  have hle := hsl.le
  have hcap := hsl.cap
  obtain ⟨b, o, rfl⟩ := hsl.addr (by omega)
  have hc1 := hsl.at 511 (by omega)
  have e3 : (byts m)[511]'(by rw [byts_length]; omega) = .int .u8 (((m.getD 511 0).toNat : Nat) : Int) := by
    simp [byts, byt, List.getD, List.getElem?_eq_getElem (show 511 < m.length by omega)]
  rw [e3] at hc1
  have hz := hsl.cut2 32 511 (some ⟨b, o + 32, none⟩) 479 (c - 32) (by omega) (by omega) (by rw [if_neg (by omega)]; simp [Addr.add]) (by omega) rfl
  rw [byts_take, byts_drop] at hz
  have ez : (m.take 511).drop 32 = (m.drop 32).take 479 := by rw [List.drop_take]
  rw [ez] at hz
  have HZ := hid (zero_any _ _ _ _ _ hz)
  have HM := hid hbx.right
  have c32 : ¬ c < 511 := by omega
  have c32' : 511 ≤ c := by omega
  have c32n : (c = 32) = False := by simp; omega
  have hmk : Hid (m.getD 511 0 = 0 → ioOf (marked m p) D = (.ok [], D)) := by
    show _ → _
    intro h0
    unfold marked
    rw [if_pos h0]
    rfl
  have hmk2 : Hid (m.getD 511 0 ≠ 0 → (m.getD 511 0 ≠ 1 ∨ allZero ((m.drop 32).take 479) = false) → ioOf (marked m p) D = (.error 90, D)) := by
    show _ → _ → _
    intro h0 h1
    unfold marked
    rw [if_neg h0, if_pos h1]
    rfl
  clear h hs hbx hsl hz e3 ez hml
  generalize m.getD 511 0 = x at *
  generalize allZero ((m.drop 32).take 479) = zz at *
  rcases hx with rfl | ⟨h0, h1⟩
  · have HI := hid (hmk.out rfl)
    rw [show ((0 : UInt8).toNat : Int) = 0 from rfl] at hc1
    clear hmk hmk2 c32n
    go_enter Tryz.func70, Tryz.ntmps70
    go_wp2_with fail
    go_ret
    refine IoSays.mkOk HI.out ?_
    exact Mem.rowB.2 ⟨none, 0, rfl, Mem.row_none.2 ⟨rfl, rfl, rfl, HM.out⟩⟩
  · have HI := hid (hmk2.out h0 h1)
    have x0 : ((x.toNat : Int) == 0) = false := by
      rw [Bool.eq_false_iff]; intro hx; apply h0; exact UInt8.toNat_inj.1 (by simpa using hx)
    clear hmk hmk2
    by_cases hx1 : x = 1
    · subst hx1
      have hzf : zz = false := by simpa using h1
      subst hzf
      rw [show ((1 : UInt8).toNat : Int) = 1 from rfl] at hc1
      clear h0 h1 x0
      go_enter Tryz.func70, Tryz.ntmps70
      go_wp2_with (first | (go_at_call 71; refine HZ.out.mono ?_; rintro e w' ⟨rfl, rfl⟩; dsimp only) | (go_at_call 66; refine (must_no _ 90 (by omega)).mono ?_; rintro e w' ⟨rfl, rfl⟩; dsimp only))
      exact ⟨rfl, IoSays.mkError HI.out (by omega) HM.out⟩
    · have x1 : ((x.toNat : Int) != 1) = true := by
        simp only [bne_iff_ne]; intro hx; apply hx1; exact UInt8.toNat_inj.1 (by show x.toNat = 1; omega)
      clear h0 h1 hx1 c32n
      go_enter Tryz.func70, Tryz.ntmps70
      go_wp2_with (go_at_call 66; refine (must_no _ 90 (by omega)).mono ?_; rintro e w' ⟨rfl, rfl⟩; dsimp only)
      exact ⟨rfl, IoSays.mkError HI.out (by omega) HM.out⟩

set_option maxRecDepth 20000 in
set_option maxHeartbeats 2000000 in
theorem marked_rest (wb w : World) (R : HP) (g : Nat) (D : Dev) (a : Option Addr) (c : Nat) (m : List UInt8) (hml : m.length = 512) (h : Mem wb w (devAt T8 g D * R)) (hs : ∀ w', Mem wb w' R → Sl w' a 512 c (byts m)) (p : Nat) (hp : p ≤ 250)
    (hx : m.getD 511 0 = 1) (hz : allZero ((m.drop 32).take 479) = true) :
    Calls Tryz.prog 70 #[.agg #[.pointer (some ⟨g, 0, none⟩), .int .i64 (p : Int)], .slice a 512 c] w (IoSays wb g R (ioOf (marked m p) D) numsB) := by
  have hbx := h.alloc [.pointer (some ⟨g, 0, none⟩), .int .i64 (p : Int)] 84
  have hsl := hs _ hbx.right.right
  have hle := hsl.le
  have hcap := hsl.cap
  obtain ⟨b, o, rfl⟩ := hsl.addr (by omega)
  have hc1 := hsl.at 511 (by omega)
  have e3 : (byts m)[511]'(by rw [byts_length]; omega) = .int .u8 1 := by
    have e4 : m[511]'(by omega) = 1 := by rw [← hx]; simp [List.getD, List.getElem?_eq_getElem (show 511 < m.length by omega)]
    simp [byts, byt, e4]
  rw [e3] at hc1
  have hz2 := hsl.cut2 32 511 (some ⟨b, o + 32, none⟩) 479 (c - 32) (by omega) (by omega) (by rw [if_neg (by omega)]; simp [Addr.add]) (by omega) rfl
  rw [byts_take, byts_drop] at hz2
  have ez : (m.take 511).drop 32 = (m.drop 32).take 479 := by rw [List.drop_take]
  rw [ez] at hz2
  have HZ := zero_any _ _ _ _ _ hz2
  rw [hz] at HZ
  have HZ := hid HZ
  have HM := hid (hbx.eq (by ac_rfl) : Mem wb _ (pts w.heap.size 84 [.pointer (some ⟨g, 0, none⟩), .int .i64 (p : Int)] * (devAt T8 g D * R)))
  have c32 : ¬ c < 511 := by omega
  have c32' : 511 ≤ c := by omega
  have c32n : (c = 32) = False := by simp; omega
  have HS : Hid (∀ w', Mem wb w' R → Sl w' (some ⟨b, o, none⟩) 512 c (byts m)) := hs
  have HML := hid hml
  have hmk : Hid (marked m p = if bitsOf m = [] ∨ p ≤ (bitsOf m).getLastD 0 then .error 90 else .ok (bitsOf m)) := by
    show _ = _
    unfold marked
    rw [hx, if_neg (by decide), if_neg (by rw [hz]; decide)]
  obtain ⟨i0, hi0, hz0, hz1, hz3⟩ := info_parts i64info
  have HI := hid (And.intro hi0 (And.intro hz0 (And.intro hz1 hz3)))
  clear h hs hbx hsl hz2 e3 ez hml hx hz hi0 hz0 hz1 hz3
  go_enter Tryz.func70, Tryz.ntmps70
  go_wp2_with (first | (go_at_call 71; refine HZ.out.mono ?_; rintro e w' ⟨rfl, rfl⟩; dsimp only))
  clear c32n
  go_loopw [5, 6, 22] (fun v _ i wr => ∃ (k : Nat) (a5 : Option Addr) (c5 : Nat), k ≤ 256 ∧ i = .int .i64 k ∧ v = .slice a5 ((List.range k).filter (pageBit m)).length c5 ∧
    Mem wb wr (row 3 1 a5 ((List.range k).filter (pageBit m)).length c5 (nums ((List.range k).filter (pageBit m))) * (pts w.heap.size 84 [.pointer (some ⟨g, 0, none⟩), .int .i64 (p : Int)] * (devAt T8 g D * R)))) (fun _ _ i _ => 256 - (intOf i).toNat)
  case atStart => exact ⟨0, none, 0, by omega, rfl, rfl, Mem.row_none.2 ⟨rfl, rfl, rfl, HM.out⟩⟩
  case round =>
    obtain ⟨k, a5, c5, hk, rfl, rfl, hm⟩ := hrel
    have HM2 := hid hm
    have hfl : ((List.range k).filter (pageBit m)).length ≤ 256 := Nat.le_trans (List.length_filter_le _ _) (by simp; omega)
    clear HM hm
    by_cases hlt : k < 256
    · have hsl := HS.out _ HM2.out.right.right.right
      have hcb := hsl.at (k / 8) (by omega)
      have hbit : Hid ((bits .and .u8 (((m.getD (k / 8) 0).toNat : Int) / 2 ^ (k % 8)) 1 == 1) = pageBit m k) := by
        show _ = _
        rw [bit_u8 _ _ (UInt8.toNat_lt _)]
        rfl
      have e3 : (byts m)[k / 8]'(by rw [byts_length, HML.out]; omega) = .int .u8 (((m.getD (k / 8) 0).toNat : Nat) : Int) := by
        simp [byts, byt, List.getD, List.getElem?_eq_getElem (show k / 8 < m.length by rw [HML.out]; omega)]
      rw [e3] at hcb
      have HSN := hid (range_filter_snoc (pageBit m) k)
      generalize (m.getD (k / 8) 0) = y at *
      have hd : (k : Int) / 8 < 512 := by omega
      obtain ⟨q, hq⟩ : ∃ q, q = k / 8 := ⟨_, rfl⟩
      have hqi : (k : Int) / 8 = (q : Int) := by omega
      obtain ⟨r, hr⟩ : ∃ r, r = k % 8 := ⟨_, rfl⟩
      have hri : (k : Int) % 8 = (r : Int) := by omega
      have hq64 : q < 512 := by omega
      have hr8 : r < 8 := by omega
      rw [← hq] at hcb
      rw [← hr] at hbit
      have kn : (k : Int) < 256 := by omega
      clear hq hr hsl e3 hd
      generalize hfe : (List.range k).filter (pageBit m) = fl at *
      have HFE := hid hfe
      clear hfe
      have HFL := hid hfl
      cases hpb : pageBit m k with
      | true =>
        rw [hpb] at hbit HSN
        have hb : bits .and .u8 ((y.toNat : Int) / 2 ^ r) 1 = 1 := by have := hbit.out; simpa using this
        clear hbit hpb
        obtain ⟨hi0, hz0, hz1, hz3⟩ := HI.out
        have hmA := HM2.out.alloc [.int .i64 (k : Int)] 3
        have hx := hmA.eq (sep_left_comm _ _ _)
        go_wp2_with ((with_reducible show wpList _ _ _ (Oper.mk (some 38) _ _ _ _ _ :: _) _ _); refine wpList_append (by rfl) (.tmp 35) (.tmp 37) 102 (by rfl) Tryz.underlying102 hi0 hz0 hz1 hz3 rfl (by omega) (by rfl) (by rfl) hx (by rfl) rfl (news_built hmA.blk.1) (fun h => by cases h) (by simp [Value.oneCell']) (by omega) (by omega) ?_; intro a' c' w2 hm2 _ _; clear hi0 hz0 hz1 hz3 hmA hx)
        have hm3 := hm2.duo_row.p1.right
        have hsn := HSN.out
        rw [if_pos rfl] at hsn
        have hnm : nums fl ++ [Value.int .i64 (k : Int)] = nums (fl ++ [k]) := by rw [nums_append]; rfl
        have hln : fl.length + 1 = (fl ++ [k]).length := by simp
        rw [hnm, hln, ← hsn] at hm3
        rw [hln, ← hsn]
        have HM3 := hid hm3
        clear hm2 hm3 HM2 hb hsn hnm hln
        go_wp2_with fail
        go_roundw
        case rel => exact ⟨k + 1, a', c', by omega, by go_num, rfl, HM3.out⟩
        case measure => simp [intOf] <;> omega
      | false =>
        rw [hpb] at hbit HSN
        have hb : (bits .and .u8 ((y.toNat : Int) / 2 ^ r) 1 == 1) = false := hbit.out
        have hsn := HSN.out
        rw [if_neg (by decide), List.append_nil] at hsn
        clear hbit hpb
        go_wp2_with fail
        go_roundw
        case rel => exact ⟨k + 1, a5, c5, by omega, by go_num, by rw [hsn], by rw [hsn]; exact HM2.out⟩
        case measure => simp [intOf] <;> omega
    · obtain rfl : k = 256 := by omega
      rw [show ((256 : Nat) : Int) = 256 from rfl]
      have hbo : (List.range 256).filter (pageBit m) = bitsOf m := rfl
      rw [hbo] at HM2 hfl
      rw [hbo]
      generalize bitsOf m = fl at *
      clear hbo
      by_cases hnil : fl = []
      · subst hnil
        have HI2 : Hid (ioOf (marked m p) D = (.error 90, D)) := by
          show _ = _
          rw [hmk.out, if_pos (.inl rfl)]
          rfl
        have HM4 := hid HM2.out.right.right
        clear hmk HM2
        rw [show ([] : List Nat).length = 0 from rfl]
        go_wp2_with fail
        go_quiet (fail)
        go_wp2_with (go_at_call 66; refine (must_no _ 90 (by omega)).mono ?_; rintro e w' ⟨rfl, rfl⟩; dsimp only)
        exact ⟨rfl, IoSays.mkError HI2.out (by omega) (HM4.out.drewN _)⟩
      · have hpos : 0 < fl.length := by cases fl with | nil => exact absurd rfl hnil | cons x r => simp
        obtain ⟨g5, rest5, rfl, r1, r2, r3, r4, hm5⟩ := HM2.out.row_at hpos
        obtain ⟨q, hq⟩ : ∃ q, fl.length = q + 1 := ⟨fl.length - 1, by omega⟩
        have hcl := hm5.cell q
        have hlast : fl[q]'(by omega) = fl.getLastD 0 := by
          rw [List.getLastD_eq_getLast?, List.getLast?_eq_getElem?, show fl.length - 1 = q by omega, List.getElem?_eq_getElem (by omega)]
          rfl
        rw [List.getElem?_append_left (by rw [nums_length]; omega), List.getElem?_eq_getElem (by rw [nums_length]; omega)] at hcl
        have e5 : (nums fl)[q]'(by rw [nums_length]; omega) = .int .i64 ((fl.getLastD 0 : Nat) : Int) := by
          rw [← hlast]; simp [nums]
        rw [e5] at hcl
        have hb0 := hm5.p1.cell 0
        have hb1 := hm5.p1.cell 1
        simp only [List.getElem?_cons_zero, List.getElem?_cons_succ] at hb0 hb1
        have HMK := hid hmk.out
        have HFL := hid hq
        have HM6 := hid HM2.out
        have hc5 : q + 1 ≤ c5 := by omega
        have hq0 : (q : Int) ≤ 1000 := by omega
        have hqq : (((q + 1 : Nat) : Int) == 0) = false := by rw [beq_eq_false_iff_ne]; omega
        have hwr : IntKind.i64.wrap ((q : Int) + 1 - 1) = (q : Int) := by rw [show (q : Int) + 1 - 1 = (q : Int) by omega]; exact IntWalk.i64_in _ (by omega)
        have hq1 : ((q : Int) + 1 == 0) = false := by rw [beq_eq_false_iff_ne]; omega
        rw [hq]
        generalize hle : fl.getLastD 0 = last at *
        clear hmk HM2 hm5 r1 r4 hlast e5 hle hq hfl hpos
        by_cases hlp : p ≤ last
        · have HI2 : Hid (ioOf (marked m p) D = (.error 90, D)) := by
            show _ = _
            rw [HMK.out, if_pos (.inr hlp)]
            rfl
          have hlp' : (p : Int) ≤ (last : Int) := by omega
          have hlq : decide ((p : Int) ≤ (last : Int)) = true := by simpa using hlp
          have HM4 := hid HM6.out.right.right
          clear HMK HM6
          go_wp2_with fail
          go_quiet (fail)
          go_wp2_with (go_at_call 66; refine (must_no _ 90 (by omega)).mono ?_; rintro e w' ⟨rfl, rfl⟩; dsimp only)
          exact ⟨rfl, IoSays.mkError HI2.out (by omega) (HM4.out.drewN _)⟩
        · have HI2 : Hid (ioOf (marked m p) D = (.ok fl, D)) := by
            show _ = _
            rw [HMK.out, if_neg (by intro h; rcases h with h | h; exact hnil h; exact hlp h)]
            rfl
          have hlp' : ¬ (p : Int) ≤ (last : Int) := by omega
          have hlq : decide ((p : Int) ≤ (last : Int)) = false := by simpa using hlp
          have HM4 := hid (HM6.out.p1.right : Mem wb _ (row 3 1 (some ⟨g5, 0, none⟩) fl.length c5 (nums fl) * (devAt T8 g D * R)))
          clear HMK HM6
          go_wp2_with fail
          go_quiet (fail)
          go_wp2_with fail
          go_ret
          refine IoSays.mkOk HI2.out ?_
          refine Mem.rowB.2 ⟨some ⟨g5, 0, none⟩, c5, ?_, HM4.out.drewN _⟩
          rw [HFL.out]
          rfl
/-- the pages of a marker -/
theorem marked_any (wb w : World) (R : HP) (g : Nat) (D : Dev) (a : Option Addr) (c : Nat) (m : List UInt8) (hml : m.length = 512) (h : Mem wb w (devAt T8 g D * R)) (hs : ∀ w', Mem wb w' R → Sl w' a 512 c (byts m)) (p : Nat) (hp : p ≤ 250) :
    Calls Tryz.prog 70 #[.agg #[.pointer (some ⟨g, 0, none⟩), .int .i64 (p : Int)], .slice a 512 c] w (IoSays wb g R (ioOf (marked m p) D) numsB) := by
  by_cases h0 : m.getD 511 0 = 0
  · exact marked_head wb w R g D a c m hml h hs p hp (.inl h0)
  · by_cases h1 : m.getD 511 0 ≠ 1 ∨ allZero ((m.drop 32).take 479) = false
    · exact marked_head wb w R g D a c m hml h hs p hp (.inr ⟨h0, h1⟩)
    · have hz : allZero ((m.drop 32).take 479) = true := by
        cases hq : allZero ((m.drop 32).take 479) with
        | true => rfl
        | false => exact absurd (.inr hq) h1
      have h2 : m.getD 511 0 = 1 := by
        by_cases hq : m.getD 511 0 = 1
        · exact hq
        · exact absurd (.inl hq) h1
      exact marked_rest wb w R g D a c m hml h hs p hp h2 hz
end Go.Proofs.YtpaebopmppbjbaaGreatDoor

/- The walk of wal's wiped. -/
set_option linter.unusedVariables false
set_option linter.unusedSimpArgs false
namespace Go.Le
open Go Go.RowKit
theorem drop_cons {α : Type} (l : List α) (k : Nat) (h : k < l.length) : l.drop k = l[k] :: l.drop (k + 1) := List.drop_eq_getElem_cons h
end Go.Le
namespace Go.Proofs.YtpaebopmppbjbaaGreatDoor
open Go Go.RowKit Go.Le
theorem u8info' : (Tryz.prog.info? 5).map (fun i => (i.zero, i.size, i.bytes)) = some (some (.int .u8 0), 1, 1) := by kernel_rfl

set_option maxRecDepth 20000 in
set_option maxHeartbeats 4000000 in
theorem wiped_any (wb w0 : World) (R : HP) (g : Nat) (D : Dev) (h : Mem wb w0 (devAt T8 g D * R)) (p : Int) (a : Option Addr) (n c : Nat) (l : List Nat) (hn : n ≤ 10000) (hpl : D.pend.length ≤ 900000000) (hs : ∀ w', Mem wb w' R → Sl w' a n c (nums l)) (hl : ∀ x ∈ l, x ≤ 900000000) :
    Calls Tryz.prog 44 #[.agg #[.pointer (some ⟨g, 0, none⟩), .int .i64 p], .slice a n c] w0 (IoSays wb g R (ioWiped l D) unitB) := by
  have hbx := h.alloc [.pointer (some ⟨g, 0, none⟩), .int .i64 p] 84
  have HM0 := hid (hbx.eq (by ac_rfl) : Mem wb _ (devAt T8 g D * (pts w0.heap.size 84 [.pointer (some ⟨g, 0, none⟩), .int .i64 p] * R)))
  have HS : Hid (∀ w', Mem wb w' R → Sl w' a n c (nums l)) := hs
  have hsl := hs _ hbx.right.right
  have hle := hsl.le
  have hcap := hsl.cap
  have hlen := hsl.len
  rw [nums_length] at hlen
  have HL := hid hlen
  have HLE := hid hl
  have HBX : Hid (∀ w' R', Mem wb w' (pts w0.heap.size 84 [.pointer (some ⟨g, 0, none⟩), .int .i64 p] * R') → w'.cell? ⟨w0.heap.size, 0, none⟩ = some (.pointer (some ⟨g, 0, none⟩)) ∧ w'.cell? ⟨w0.heap.size, 1, none⟩ = some (.int .i64 p)) := fun w' R' h => ⟨h.cell 0, h.cell 1⟩
  have HMK : Hid (∀ w : World, (Instr.makeSlice 50 (.int .i64 512) (.int .i64 512)).run Tryz.prog w = .ok (.slice (some ⟨w.heap.size, 0, none⟩) 512 512) (w.alloc (.cells (byts sect0).toArray 5))) := by
    show ∀ w, _
    intro w
    have h1 := run_make_bytes (P := Tryz.prog) 50 5 Tryz.underlying50 u8info' .i64 .i64 (512 : Int) (by omega) (by omega) w
    rw [show (512 : Int).toNat = 512 from rfl] at h1
    rw [h1, show List.replicate 512 (Value.int .u8 0) = byts sect0 by unfold sect0 zrs; rw [byts_zeros]]
  clear h hbx hs hsl hlen hl
  go_enter Tryz.func44, Tryz.ntmps44
  go_wp2_with fail
  go_loopw [4, 6, 9] (fun sv _ i wr => ∃ (k : Nat) (s : Bool) (D' : Dev), k ≤ n ∧ i = .int .i64 k ∧ sv = .bool s ∧ D'.pend.length ≤ D.pend.length + k ∧ ioWiped l D = ((ioWipe s (l.drop k)).and fun s => if s then ioFlush else Io.ret ()) D' ∧
    Mem wb wr (devAt T8 g D' * (pts w0.heap.size 84 [.pointer (some ⟨g, 0, none⟩), .int .i64 p] * R))) (fun _ _ i _ => n - (intOf i).toNat)
  case atStart => exact ⟨0, false, D, by omega, rfl, rfl, by omega, by rw [List.drop_zero]; rfl, HM0.out⟩
  case round =>
    obtain ⟨k, s, D1, hk, rfl, rfl, hpd, hio, hm⟩ := hrel
    have HM := hid hm
    have HIO := hid hio
    clear HM0 hm hio
    by_cases hlt : k < n
    · have hsl := HS.out _ HM.out.right.right
      obtain ⟨b, o, rfl⟩ := hsl.addr (by omega)
      have hcb := hsl.at k hlt
      have hkl : k < l.length := by rw [HL.out]; exact hlt
      have e3 : (nums l)[k]'(by rw [nums_length]; exact hkl) = .int .i64 ((l[k] : Nat) : Int) := by simp [nums]
      rw [e3] at hcb
      have hxi := HLE.out l[k] (List.getElem_mem hkl)
      have HDC := hid (drop_cons l k hkl)
      generalize l[k] = xi at *
      obtain ⟨q0, q1⟩ := HBX.out _ _ HM.out.right
      have HRD := hid (dread_any wb wr _ g D1 HM.out (by omega) xi (by omega) p)
      have kn : (k : Int) < (n : Int) := by omega
      obtain ⟨rr, HRR⟩ : ∃ r, Hid (ioRead xi D1 = r) := ⟨_, hid rfl⟩
      rw [HRR.out] at HRD
      clear hsl e3
      rcases rr with ⟨e1 | bs, Dx⟩
      · have HBE : Hid (ioWiped l D = (.error e1, Dx)) := by
          show _ = _
          rw [HIO.out, HDC.out]
          show (((ioRead xi).and _).and _) D1 = _
          rw [Io.and_assoc]
          exact Io.and_error HRR.out
        clear HIO HDC HRR
        go_wp2_with fail
        refine HRD.out.mono ?_
        intro e w2 hs'
        obtain ⟨rfl, hc, hm2⟩ := hs'.error rfl
        dsimp only
        exact ⟨rfl, IoSays.mkError HBE.out hc hm2.p1.right⟩
      · have hDx : Dx = D1 := by
          have h1 := HRR.out
          unfold ioRead at h1
          split at h1
          · cases h1; rfl
          · cases h1
        subst hDx
        have HBE : Hid (ioWiped l D = ((if allZero bs then ioWipe s (l.drop (k + 1)) else (ioWrite xi sect0).and fun _ => ioWipe true (l.drop (k + 1))).and fun s => if s then ioFlush else Io.ret ()) Dx) := by
          show _ = _
          rw [HIO.out, HDC.out]
          show (((ioRead xi).and _).and _) Dx = _
          rw [Io.and_assoc]
          exact Io.and_ok HRR.out
        clear HIO HDC HRR
        go_wp2_with fail
        refine HRD.out.mono ?_
        intro e w2 hs'
        obtain ⟨v, rfl, hm2⟩ := hs'.ok rfl
        unfold bytesB at hm2
        obtain ⟨a2, c2, rfl, hm3⟩ := Mem.rowB.1 hm2
        dsimp only
        have HZ := hid (zero_any w2 _ _ _ bs hm3.row_sl)
        have HM2 := hid hm3.right
        obtain ⟨q0, q1⟩ := HBX.out _ _ hm3.right.right
        clear hm2 hm3 hs' HRD
        cases hz : allZero bs with
        | true =>
          rw [hz] at HZ HBE
          clear hz
          go_wp2_with (go_at_call 71; refine HZ.out.mono ?_; rintro e w' ⟨rfl, rfl⟩; dsimp only)
          go_roundw
          case rel => exact ⟨k + 1, s, Dx, by omega, by go_num, rfl, by omega, HBE.out, HM2.out⟩
          case measure => simp [intOf] <;> omega
        | false =>
          rw [hz] at HZ HBE
          clear hz
          have HW : Hid (∀ w R' g2, Mem wb w (devAt T8 g Dx * R') → Sl w (some ⟨g2, 0, none⟩) 512 512 (byts sect0) → Calls Tryz.prog 59 #[.agg #[.pointer (some ⟨g, 0, none⟩), .int .i64 p], .int .i64 (xi : Int), .slice (some ⟨g2, 0, none⟩) 512 512] w (IoSays wb g R' (ioWrite xi sect0 Dx) unitB)) := by
            show ∀ w R' g2, _
            intro w R' g2 hm hsl
            exact dwrite_any wb w R' g Dx hm (by omega) xi (by omega) p _ 512 512 _ hsl
          have HG := hid (Io.Grows.write xi sect0 Dx)
          obtain ⟨r2, HR2⟩ : ∃ r, Hid (ioWrite xi sect0 Dx = r) := ⟨_, hid rfl⟩
          rw [HR2.out] at HW HG
          have HM := HM2
          clear HM2
          go_wp2_with (go_at_call 71; refine HZ.out.mono ?_; rintro e w' ⟨rfl, rfl⟩; dsimp only)
          rcases r2 with ⟨e2 | u2, D2⟩
          · have HBE : Hid (ioWiped l D = (.error e2, D2)) := by
              show _ = _
              rw [HBE.out]
              show (((ioWrite xi sect0).and _).and _) Dx = _
              rw [Io.and_assoc]
              exact Io.and_error HR2.out
            clear HR2 HG q0 q1 HZ
            refine region_mem (by kernel_rfl) (V := fun jv x => match jv with | 0 => x = (.agg #[.pointer (some ⟨g, 0, none⟩), .int .i64 p] : Value) | 1 => x = (.int .i64 (xi : Int) : Value) | 2 => ∃ g2, x = (.slice (some ⟨g2, 0, none⟩) 512 512 : Value) | 3 => False | _ => True) (A := (fun L => (if L 3 then devAt T8 g D2 else devAt T8 g Dx) * (pts w0.heap.size 84 [.pointer (some ⟨g, 0, none⟩), .int .i64 p] * R))) (Bs := [(2, none, blkB 5 512 (byts sect0))]) HM.out (fun L L' h => by show (if L 3 then _ else _) * _ = (if L' 3 then _ else _) * _; rw [h 3 (by decide)]) (show ([2] : List Nat).Nodup by decide) (by kernel_rfl) (by kernel_rfl) ?_ ?_
            · refine ⟨?_, ?_, ?_, ?_, trivial⟩
              · refine Fine2.run trivial _ rfl (fun _ => rfl) rfl rfl (fun L a w R' hw hm hmk hf => ?_)
                have e2 : a.eval (.tmp 2) = (.pointer (some ⟨w0.heap.size, 0, none⟩) : Value) := (hf 2 (by decide +kernel)).old (by kernel_rfl)
                simp only [Act.eval, Array.getD_eq_getD_getElem?] at e2
                have hbx := hm.left.right
                have q0 := hbx.cell 0
                have q1 := hbx.cell 1
                simp only [List.getElem?_cons_zero, List.getElem?_cons_succ] at q0 q1
                simp [execOp, resolve, invoke, builtin, go_sem, e2, q0, q1]
              · refine Fine2.run trivial _ rfl (fun _ => rfl) rfl rfl (fun L a w R' hw hm hmk hf => ?_)
                have e6 : a.eval (.tmp 6) = (.int .i64 (xi : Int) : Value) := (hf 6 (by decide +kernel)).old (by kernel_rfl)
                simp only [Act.eval, Array.getD_eq_getD_getElem?] at e6
                simp [execOp, resolve, invoke, builtin, go_sem, e6]
              · refine Fine2.open trivial (fun L a w R' hL hw hm hmk hf => ?_)
                rw [eaten_none rfl, emp_sep] at hm
                skip
                refine ⟨.slice (some ⟨w.heap.size, 0, none⟩) 512 512, w.alloc (.cells (byts sect0).toArray 5), ?_, ⟨_, rfl⟩, ?_⟩
                · simp [execOp, resolve, invoke, builtin, go_sem, HMK.out]
                · exact (Mem.blkB.2 ⟨_, rfl, hm.alloc (byts sect0) 5⟩ : Mem wb _ (blkB 5 512 (byts sect0) _ * _)).p1
              · refine .inl ⟨trivial, fun L a w Kq Rq hL hw hm hmk hf hdf hcl hK => ?_⟩
                rw [eaten_none rfl, emp_sep] at hm
                obtain ⟨R3, hR3⟩ := hmk [true] (by kernel_rfl)
                have hm : Mem wb w ((if L 3 then devAt T8 g D2 else devAt T8 g Dx) * (pts w0.heap.size 84 [.pointer (some ⟨g, 0, none⟩), .int .i64 p] * R) * Rq) := hm
                rw [hL] at hm
                have hm : Mem wb w (devAt T8 g Dx * (pts w0.heap.size 84 [.pointer (some ⟨g, 0, none⟩), .int .i64 p] * R) * Rq) := hm
                have hm' := hm
                rw [hR3] at hm'
                obtain ⟨g2, y, m1⟩ := Mem.blkB.1 (show Mem wb w (_ * (_ * R3)) from hm').p1
                have e20 : a.eval (.tmp 20) = .slice (some ⟨g2, 0, none⟩) 512 512 := y
                have e18 : a.eval (.tmp 18) = (.agg #[.pointer (some ⟨g, 0, none⟩), .int .i64 p] : Value) := (hf 18 (by decide +kernel)).new 0 (by kernel_rfl) (by kernel_rfl)
                have e19 : a.eval (.tmp 19) = .int .i64 (xi : Int) := (hf 19 (by decide +kernel)).new 1 (by kernel_rfl) (by kernel_rfl)
                simp only [Act.eval, Array.getD_eq_getD_getElem?] at e18 e19 e20
                unfold Oper.wp
                rw [show (execOp a.eval _).run Tryz.prog w = .ok (.enter 59 #[(.agg #[.pointer (some ⟨g, 0, none⟩), .int .i64 p]), .int .i64 (xi : Int), .slice (some ⟨g2, 0, none⟩) 512 512]) w from by simp [execOp, resolve, invoke, go_sem, e18, e19, e20]]
                refine (HW.out w (pts w0.heap.size 84 [.pointer (some ⟨g, 0, none⟩), .int .i64 p] * R * Rq) g2 (hm.eq (by ac_rfl)) (m1.blk.1.sl_all 512 (by rw [byts_length]; exact zrs_length 512) (by omega))).mono ?_
                intro e w' hs'
                obtain ⟨rfl, hc, hm2⟩ := hs'.error rfl
                exact ⟨hdf, IoSays.mkError HBE.out hc (hm2.eq (by ac_rfl) : Mem wb w' (pts w0.heap.size 84 [.pointer (some ⟨g, 0, none⟩), .int .i64 p] * Rq * (devAt T8 g D2 * R))).right⟩
            · intro u w9 hu hm9
              exact absurd (hu 21 3 rfl) (fun h => h)
          · have HBE : Hid (ioWiped l D = ((ioWipe true (l.drop (k + 1))).and fun s => if s then ioFlush else Io.ret ()) D2) := by
              show _ = _
              rw [HBE.out]
              show (((ioWrite xi sect0).and _).and _) Dx = _
              rw [Io.and_assoc]
              exact Io.and_ok HR2.out
            have HPD : Hid (D2.pend.length ≤ D.pend.length + (k + 1)) := by show _ ≤ _; have h2 : D2.pend.length ≤ Dx.pend.length + 1 := HG.out; omega
            clear HR2 HG q0 q1 HZ
            refine region_mem (by kernel_rfl) (V := fun jv x => match jv with | 0 => x = (.agg #[.pointer (some ⟨g, 0, none⟩), .int .i64 p] : Value) | 1 => x = (.int .i64 (xi : Int) : Value) | 2 => ∃ g2, x = (.slice (some ⟨g2, 0, none⟩) 512 512 : Value) | 3 => x = (.tuple #[] : Value) | _ => True) (A := (fun L => (if L 3 then devAt T8 g D2 else devAt T8 g Dx) * (pts w0.heap.size 84 [.pointer (some ⟨g, 0, none⟩), .int .i64 p] * R))) (Bs := [(2, none, blkB 5 512 (byts sect0))]) HM.out (fun L L' h => by show (if L 3 then _ else _) * _ = (if L' 3 then _ else _) * _; rw [h 3 (by decide)]) (show ([2] : List Nat).Nodup by decide) (by kernel_rfl) (by kernel_rfl) ?_ ?_
            · refine ⟨?_, ?_, ?_, ?_, trivial⟩
              · refine Fine2.run trivial _ rfl (fun _ => rfl) rfl rfl (fun L a w R' hw hm hmk hf => ?_)
                have e2 : a.eval (.tmp 2) = (.pointer (some ⟨w0.heap.size, 0, none⟩) : Value) := (hf 2 (by decide +kernel)).old (by kernel_rfl)
                simp only [Act.eval, Array.getD_eq_getD_getElem?] at e2
                have hbx := hm.left.right
                have q0 := hbx.cell 0
                have q1 := hbx.cell 1
                simp only [List.getElem?_cons_zero, List.getElem?_cons_succ] at q0 q1
                simp [execOp, resolve, invoke, builtin, go_sem, e2, q0, q1]
              · refine Fine2.run trivial _ rfl (fun _ => rfl) rfl rfl (fun L a w R' hw hm hmk hf => ?_)
                have e6 : a.eval (.tmp 6) = (.int .i64 (xi : Int) : Value) := (hf 6 (by decide +kernel)).old (by kernel_rfl)
                simp only [Act.eval, Array.getD_eq_getD_getElem?] at e6
                simp [execOp, resolve, invoke, builtin, go_sem, e6]
              · refine Fine2.open trivial (fun L a w R' hL hw hm hmk hf => ?_)
                rw [eaten_none rfl, emp_sep] at hm
                skip
                refine ⟨.slice (some ⟨w.heap.size, 0, none⟩) 512 512, w.alloc (.cells (byts sect0).toArray 5), ?_, ⟨_, rfl⟩, ?_⟩
                · simp [execOp, resolve, invoke, builtin, go_sem, HMK.out]
                · exact (Mem.blkB.2 ⟨_, rfl, hm.alloc (byts sect0) 5⟩ : Mem wb _ (blkB 5 512 (byts sect0) _ * _)).p1
              · refine .inl ⟨trivial, fun L a w Kq Rq hL hw hm hmk hf hdf hcl hK => ?_⟩
                rw [eaten_none rfl, emp_sep] at hm
                obtain ⟨R3, hR3⟩ := hmk [true] (by kernel_rfl)
                have hm : Mem wb w ((if L 3 then devAt T8 g D2 else devAt T8 g Dx) * (pts w0.heap.size 84 [.pointer (some ⟨g, 0, none⟩), .int .i64 p] * R) * Rq) := hm
                rw [hL] at hm
                have hm : Mem wb w (devAt T8 g Dx * (pts w0.heap.size 84 [.pointer (some ⟨g, 0, none⟩), .int .i64 p] * R) * Rq) := hm
                have hm' := hm
                rw [hR3] at hm'
                obtain ⟨g2, y, m1⟩ := Mem.blkB.1 (show Mem wb w (_ * (_ * R3)) from hm').p1
                have e20 : a.eval (.tmp 20) = .slice (some ⟨g2, 0, none⟩) 512 512 := y
                have e18 : a.eval (.tmp 18) = (.agg #[.pointer (some ⟨g, 0, none⟩), .int .i64 p] : Value) := (hf 18 (by decide +kernel)).new 0 (by kernel_rfl) (by kernel_rfl)
                have e19 : a.eval (.tmp 19) = .int .i64 (xi : Int) := (hf 19 (by decide +kernel)).new 1 (by kernel_rfl) (by kernel_rfl)
                simp only [Act.eval, Array.getD_eq_getD_getElem?] at e18 e19 e20
                unfold Oper.wp
                rw [show (execOp a.eval _).run Tryz.prog w = .ok (.enter 59 #[(.agg #[.pointer (some ⟨g, 0, none⟩), .int .i64 p]), .int .i64 (xi : Int), .slice (some ⟨g2, 0, none⟩) 512 512]) w from by simp [execOp, resolve, invoke, go_sem, e18, e19, e20]]
                refine (HW.out w (pts w0.heap.size 84 [.pointer (some ⟨g, 0, none⟩), .int .i64 p] * R * Rq) g2 (hm.eq (by ac_rfl)) (m1.blk.1.sl_all 512 (by rw [byts_length]; exact zrs_length 512) (by omega))).mono ?_
                intro e w' hs'
                obtain ⟨rfl, hm2⟩ := hs'.unit rfl
                refine hK _ _ rfl ?_
                show Mem wb w' ((if doneSet L 3 3 then devAt T8 g D2 else devAt T8 g Dx) * (pts w0.heap.size 84 [.pointer (some ⟨g, 0, none⟩), .int .i64 p] * R) * (emp * Rq))
                rw [show doneSet L 3 3 = true from rfl, emp_sep]
                exact hm2.eq (by show _ = devAt T8 g D2 * (pts w0.heap.size 84 [.pointer (some ⟨g, 0, none⟩), .int .i64 p] * R) * Rq; ac_rfl)
            · intro u w9 hu hm9
              have HM9 := hid (hm9.left : Mem wb w9 (devAt T8 g D2 * (pts w0.heap.size 84 [.pointer (some ⟨g, 0, none⟩), .int .i64 p] * R)))
              simp only [putAll]
              clear hm9 hu HW HM
              go_simp
              go_wp2_with fail
              go_roundw
              case rel => exact ⟨k + 1, true, D2, by omega, by go_num, rfl, by have := HPD.out; omega, HBE.out, HM9.out⟩
              case measure => simp [intOf] <;> omega
    · obtain rfl : k = n := by omega
      have HBE : Hid (ioWiped l D = (if s then ioFlush else Io.ret ()) D1) := by
        show _ = _
        rw [HIO.out, List.drop_of_length_le (by rw [HL.out]; omega)]
        rfl
      obtain ⟨q0, q1⟩ := HBX.out _ _ HM.out.right
      have HM2 := hid HM.out.p1.right
      clear HIO
      cases s with
      | false =>
        clear HM q0 q1
        go_wp2_with fail
        go_end0
        exact IoSays.mkUnit HBE.out HM2.out
      | true =>
        have HF := hid (dflush_any wb wr _ g D1 HM.out (by omega) p)
        obtain ⟨r2, HR2⟩ : ∃ r, Hid (ioFlush D1 = r) := ⟨_, hid rfl⟩
        have HBE : Hid (ioWiped l D = r2) := hid (HBE.out.trans HR2.out)
        rw [HR2.out] at HF
        clear HM HR2 HM2
        go_wp2_with fail
        refine HF.out.mono ?_
        intro e w3 hs
        rcases r2 with ⟨e2 | u2, D2⟩
        · obtain ⟨rfl, hc, hm⟩ := hs.error rfl
          dsimp only
          exact ⟨rfl, IoSays.mkError HBE.out hc hm.p1.right⟩
        · obtain ⟨rfl, hm⟩ := hs.unit rfl
          dsimp only
          have HM3 := hid hm.p1.right
          clear hm hs
          go_wp2_with fail
          go_end0
          exact IoSays.mkUnit HBE.out HM3.out
end Go.Proofs.YtpaebopmppbjbaaGreatDoor

/- The walk of wal's again. -/
set_option linter.unusedVariables false
set_option linter.unusedSimpArgs false
namespace Go.Le
open Go Go.RowKit
/-- from the sector number k of page n on -/
def redoFrom (p n : Nat) (r : List Nat) (k : Nat) : Io Unit := if k = 0 then (ioCopy p n 0).and fun _ => (ioCopy p n 1).and fun _ => ioRedo p r else if k = 1 then (ioCopy p n 1).and fun _ => ioRedo p r else ioRedo p r
theorem redoFrom_step (p n : Nat) (r : List Nat) (k : Nat) (h : k < 2) : redoFrom p n r k = (ioCopy p n k).and fun _ => redoFrom p n r (k + 1) := by
  match k, h with
  | 0, _ => rfl
  | 1, _ => rfl
theorem read_same {i : Nat} {D D' : Dev} {b : List UInt8} (h : ioRead i D = (.ok b, D')) : D' = D := by
  unfold ioRead at h
  split at h
  · cases h; rfl
  · cases h
theorem read_same_error {i : Nat} {D D' : Dev} {e : Int} (h : ioRead i D = (.error e, D')) : D' = D := by
  unfold ioRead at h
  split at h
  · cases h
  · cases h; rfl
end Go.Le
namespace Go.Proofs.YtpaebopmppbjbaaGreatDoor
open Go Go.RowKit Go.Le

/-- a truth -/
def boolB (b : Bool) (v : Value) : HP := pur (v = .bool b)
theorem read_len {i : Nat} {D D' : Dev} {b : List UInt8} (hok : D.ok) (h : ioRead i D = (.ok b, D')) : b.length = 512 := by
  unfold ioRead at h
  split at h
  · rename_i ha
    cases h
    obtain ⟨-, -, h2⟩ := asked_zero ha
    exact Dev.last_length hok (by omega)
  · cases h

set_option maxRecDepth 20000 in
set_option maxHeartbeats 8000000 in
theorem again_any (wb w0 : World) (R : HP) (g : Nat) (D : Dev) (h : Mem wb w0 (devAt T8 g D * R)) (hpl : D.pend.length ≤ 800000000) (p : Nat) (hp : p ≤ 250) :
    Calls Tryz.prog 43 #[(.agg #[.pointer (some ⟨g, 0, none⟩), .int .i64 (p : Int)])] w0 (IoSays wb g R (ioAgain p D) boolB) := by
  have hbx := h.alloc [.pointer (some ⟨g, 0, none⟩), .int .i64 (p : Int)] 84
  have hm0 := hbx.eq (by ac_rfl : _ = devAt T8 g D * (pts w0.heap.size 84 [.pointer (some ⟨g, 0, none⟩), .int .i64 (p : Int)] * R))
  obtain ⟨hok, -⟩ := Mem.devAt.1 hm0
  have HOK := hid hok
  obtain ⟨q0, q1⟩ : (w0.alloc (.cells #[.pointer (some ⟨g, 0, none⟩), .int .i64 (p : Int)] 84)).cell? ⟨w0.heap.size, 0, none⟩ = some (.pointer (some ⟨g, 0, none⟩)) ∧ (w0.alloc (.cells #[.pointer (some ⟨g, 0, none⟩), .int .i64 (p : Int)] 84)).cell? ⟨w0.heap.size, 1, none⟩ = some (.int .i64 (p : Int)) := ⟨hbx.cell 0, hbx.cell 1⟩
  have HBX : Hid (∀ w' R', Mem wb w' (pts w0.heap.size 84 [.pointer (some ⟨g, 0, none⟩), .int .i64 (p : Int)] * R') → w'.cell? ⟨w0.heap.size, 0, none⟩ = some (.pointer (some ⟨g, 0, none⟩)) ∧ w'.cell? ⟨w0.heap.size, 1, none⟩ = some (.int .i64 (p : Int))) := fun w' R' h => ⟨h.cell 0, h.cell 1⟩
  have HR0 := hid (dread_any wb _ _ g D hm0 (by omega) 0 (by omega) (p : Int))
  obtain ⟨r0, HR⟩ : ∃ r, Hid (ioRead 0 D = r) := ⟨_, hid rfl⟩
  rw [HR.out] at HR0
  clear h hbx hm0 hok
  rcases r0 with ⟨e0 | m, D0⟩
  · have HBE : Hid (ioAgain p D = (.error e0, D0)) := hid (Io.and_error HR.out)
    clear HR
    go_enter Tryz.func43, Tryz.ntmps43
    go_wp2_with fail
    refine HR0.out.mono ?_
    intro e w2 hs'
    obtain ⟨rfl, hc, hm2⟩ := hs'.error rfl
    dsimp only
    exact ⟨rfl, IoSays.mkError HBE.out hc hm2.p1.right⟩
  · obtain rfl : D0 = D := read_same HR.out
    have HML := hid (read_len HOK.out HR.out)
    have HB0 : Hid (ioAgain p D0 = ((ioOf (marked m p)).and fun l => if l = [] then Io.ret false else (ioRedo p l).and fun _ => ioFlush.and fun _ => (ioFalls m).and fun _ => Io.ret true) D0) := hid (Io.and_ok HR.out)
    clear HR
    go_enter Tryz.func43, Tryz.ntmps43
    go_wp2_with fail
    refine HR0.out.mono ?_
    intro e w2 hs'
    obtain ⟨v, rfl, hm2⟩ := hs'.ok rfl
    unfold bytesB at hm2
    rw [HML.out] at hm2
    obtain ⟨am, cm, rfl, hm3⟩ := Mem.rowB.1 hm2
    dsimp only
    have hm4 := hm3.eq (by ac_rfl : _ = devAt T8 g D0 * (pts w0.heap.size 84 [.pointer (some ⟨g, 0, none⟩), .int .i64 (p : Int)] * (row 5 1 am 512 cm (byts m) * R)))
    have HMA := hid (marked_any wb w2 _ g D0 am cm m HML.out hm4 (fun w' h' => h'.right.row_sl) p hp)
    obtain ⟨q0, q1⟩ := HBX.out _ _ hm4.right
    clear hm2 hm3 hm4 hs' HR0
    cases hmk : marked m p with
    | error e1 =>
      rw [hmk] at HMA HB0
      have HBE : Hid (ioAgain p D0 = (.error e1, D0)) := HB0
      clear hmk HB0
      go_wp2_with fail
      refine HMA.out.mono ?_
      intro e w3 hs'
      obtain ⟨rfl, hc, hm2⟩ := hs'.error rfl
      dsimp only
      exact ⟨rfl, IoSays.mkError HBE.out hc (hm2.eq (by ac_rfl) : Mem wb w3 (pts w0.heap.size 84 [.pointer (some ⟨g, 0, none⟩), .int .i64 (p : Int)] * (row 5 1 am 512 cm (byts m) * (devAt T8 g D0 * R)))).right.right⟩
    | ok l =>
      rw [hmk] at HMA HB0
      have hll := marked_length hmk
      have HLB : Hid (∀ x ∈ l, x ≤ 255) := by
        show ∀ x ∈ l, x ≤ 255
        intro x hx
        unfold marked at hmk
        split at hmk
        · cases hmk; cases hx
        · split at hmk
          · cases hmk
          · split at hmk
            · cases hmk
            · cases hmk
              have := List.mem_range.1 (List.mem_filter.1 hx).1
              omega
      have HB1 : Hid (ioAgain p D0 = (if l = [] then Io.ret false else (ioRedo p l).and fun _ => ioFlush.and fun _ => (ioFalls m).and fun _ => Io.ret true) D0) := HB0
      clear hmk HB0
      go_wp2_with fail
      refine HMA.out.mono ?_
      intro e w3 hs'
      obtain ⟨v, rfl, hm2⟩ := hs'.ok rfl
      unfold numsB at hm2
      obtain ⟨al, cl, rfl, hm3⟩ := Mem.rowB.1 hm2
      dsimp only
      have HM4 := hid (hm3.eq (by ac_rfl : _ = devAt T8 g D0 * (pts w0.heap.size 84 [.pointer (some ⟨g, 0, none⟩), .int .i64 (p : Int)] * (row 5 1 am 512 cm (byts m) * (row 3 1 al l.length cl (nums l) * R)))))
      clear hm2 hm3 hs' HMA q0 q1
      by_cases hl0 : l = []
      · have HBE : Hid (ioAgain p D0 = (.ok false, D0)) := by
          show _ = _
          rw [HB1.out, if_pos hl0]
          rfl
        have hl0' : l.length = 0 := by rw [hl0]; rfl
        have HM5 := (HM4.out.eq (by ac_rfl) : Mem wb w3 (pts w0.heap.size 84 [.pointer (some ⟨g, 0, none⟩), .int .i64 (p : Int)] * (row 5 1 am 512 cm (byts m) * (row 3 1 al l.length cl (nums l) * (devAt T8 g D0 * R))))).right.right.right
        have HM5 := hid HM5
        clear HB1 HM4 hl0
        go_wp2_with fail
        go_ret
        exact IoSays.mkOk HBE.out (by unfold boolB; rw [Mem.pur]; exact ⟨rfl, HM5.out⟩)
      · have HB2 : Hid (ioAgain p D0 = ((ioRedo p l).and fun _ => ioFlush.and fun _ => (ioFalls m).and fun _ => Io.ret true) D0) := by
          show _ = _
          rw [HB1.out, if_neg hl0]
        have hlp : 0 < l.length := by cases l with | nil => exact absurd rfl hl0 | cons x r => simp
        have hll0 : ((l.length : Int) == 0) = false := by rw [beq_eq_false_iff_ne]; omega
        obtain ⟨R2, HR2d⟩ : ∃ R2, Hid (R2 = row 5 1 am 512 cm (byts m) * (row 3 1 al l.length cl (nums l) * R)) := ⟨_, hid rfl⟩
        rw [← HR2d.out] at HM4
        have HSL : Hid (∀ w', Mem wb w' R2 → Sl w' al l.length cl (nums l)) := by
          show ∀ w', _
          intro w' h'
          rw [HR2d.out] at h'
          exact h'.right.row_sl
        have FIN : Hid (∀ w' c D', ioAgain p D0 = (.error c, D') → c ≠ 0 → Mem wb w' (devAt T8 g D' * R2) → IoSays wb g R (ioAgain p D0) boolB (.panicked [errP 49 c]) w') := by
          show ∀ w' c D', _
          intro w' c D' hb hc hm
          rw [HR2d.out] at hm
          exact IoSays.mkError hb hc (hm.eq (by ac_rfl) : Mem wb w' (row 5 1 am 512 cm (byts m) * (row 3 1 al l.length cl (nums l) * (devAt T8 g D' * R)))).right.right
        obtain ⟨rest, HRE⟩ : ∃ rest : Unit → Io Bool, Hid (rest = fun _ => ioFlush.and fun _ => (ioFalls m).and fun _ => Io.ret true) := ⟨_, hid rfl⟩
        rw [← HRE.out] at HB2
        have hal := (HSL.out _ HM4.out.right.right)
        have hcl := hal.le
        have hcl2 := hal.cap
        clear HB1 hl0 hlp hal
        go_wp2_with fail
        go_loopw [6, 7, 18, 22] (fun _ _ jv _ wr => ∃ (j : Nat) (D1 : Dev), j ≤ l.length ∧ jv = .int .i64 j ∧ D1.pend.length ≤ D0.pend.length + 2 * j ∧ ioAgain p D0 = ((ioRedo p (l.drop j)).and rest) D1 ∧ Mem wb wr (devAt T8 g D1 * (pts w0.heap.size 84 [.pointer (some ⟨g, 0, none⟩), .int .i64 (p : Int)] * R2))) (fun _ _ jv _ _ => l.length - (intOf jv).toNat)
        case atStart => exact ⟨0, D0, by omega, rfl, by omega, by rw [List.drop_zero]; exact HB2.out, HM4.out⟩
        case round =>
          obtain ⟨j, Dj, hj, rfl, hpd, hio, hm⟩ := hrel
          have HM := hid hm
          have HIO := hid hio
          clear HM4 HB2 hm hio
          by_cases hlt : j < l.length
          · have hsl := HSL.out _ HM.out.right.right
            obtain ⟨b, o, rfl⟩ := hsl.addr (by omega)
            have hcb := hsl.at j hlt
            have e3 : (nums l)[j]'(by rw [nums_length]; exact hlt) = .int .i64 ((l[j] : Nat) : Int) := by simp [nums]
            rw [e3] at hcb
            have hxi := HLB.out l[j] (List.getElem_mem hlt)
            have HDC := hid (drop_cons l j hlt)
            generalize l[j] = nn at *
            have jn : (j : Int) < (l.length : Int) := by omega
            have HIO2 : Hid (ioAgain p D0 = ((redoFrom p nn (l.drop (j + 1)) 0).and rest) Dj) := by
              show _ = _
              rw [HIO.out, HDC.out]
              rfl
            clear hsl e3 HIO HDC
            obtain ⟨wo, hwo⟩ : ∃ wo : World, wo = wr := ⟨_, rfl⟩
            subst hwo
            go_wp2_with fail
            go_loopw [7, 22] (fun _ kv wr => ∃ (k : Nat) (D1 : Dev), k ≤ 2 ∧ kv = .int .i64 k ∧ D1.pend.length ≤ D0.pend.length + 2 * j + k ∧ ioAgain p D0 = ((redoFrom p nn (l.drop (j + 1)) k).and rest) D1 ∧ Mem wb wr (devAt T8 g D1 * (pts w0.heap.size 84 [.pointer (some ⟨g, 0, none⟩), .int .i64 (p : Int)] * R2))) (fun _ kv _ => 2 - (intOf kv).toNat)
            case atStart => exact ⟨0, Dj, by omega, rfl, by omega, HIO2.out, HM.out⟩
            case round =>
              obtain ⟨k, D1, hk, rfl, hpd1, hio, hm⟩ := hrel
              have HM1 := hid hm
              have HIO1 := hid hio
              clear HM HIO2 hm hio hcb
              have HM := HM1
              clear HM1
              by_cases hkt : k < 2
              · have k2 : (k : Int) < 2 := by omega
                have HCP : Hid (ioAgain p D0 = ((ioRead (slotOf nn + k)).and fun b => (ioWrite (homeOf p nn + k) b).and fun _ => (redoFrom p nn (l.drop (j + 1)) (k + 1)).and rest) D1) := by
                  show _ = _
                  rw [HIO1.out, redoFrom_step _ _ _ _ hkt, Io.and_assoc]
                  unfold ioCopy
                  rw [Io.and_assoc]
                have HHO : Hid (∀ w, Calls Tryz.prog 47 #[(.agg #[.pointer (some ⟨g, 0, none⟩), .int .i64 (p : Int)]), .int .i64 (nn : Int)] w fun e w' => e = .returned (.int .i64 ((homeOf p nn : Nat) : Int)) ∧ Fr w.heap.size [] w w') := fun w => home_any w _ nn p (by omega) (by omega)
                have HSO : Hid (∀ w, Calls Tryz.prog 57 #[(.agg #[.pointer (some ⟨g, 0, none⟩), .int .i64 (p : Int)]), .int .i64 (nn : Int)] w fun e w' => e = .returned (.int .i64 ((slotOf nn : Nat) : Int)) ∧ Fr w.heap.size [] w w') := fun w => slot_any w _ nn (by omega) _
                have hho : homeOf p nn ≤ 2000 := by unfold homeOf; omega
                have hso : slotOf nn ≤ 2000 := by unfold slotOf; omega
                generalize homeOf p nn = ho at *
                generalize slotOf nn = so at *
                have HRD : Hid (∀ w R', Mem wb w (devAt T8 g D1 * R') → Calls Tryz.prog 48 #[(.agg #[.pointer (some ⟨g, 0, none⟩), .int .i64 (p : Int)]), .int .i64 ((so : Int) + (k : Int))] w (IoSays wb g R' (ioRead (so + k) D1) bytesB)) := by
                  show ∀ w R', _
                  intro w R' h
                  have := dread_any wb w R' g D1 h (by omega) (so + k) (by omega) (p : Int)
                  rw [show ((so + k : Nat) : Int) = (so : Int) + (k : Int) by omega] at this
                  exact this
                have WO : IntKind.i64.wrap ((ho : Int) + (k : Int)) = (ho : Int) + (k : Int) := IntWalk.i64_in _ (by omega)
                have WS : IntKind.i64.wrap ((so : Int) + (k : Int)) = (so : Int) + (k : Int) := IntWalk.i64_in _ (by omega)
                have HWO := hid WO
                have HWS := hid WS
                obtain ⟨rr, HRR⟩ : ∃ r, Hid (ioRead (so + k) D1 = r) := ⟨_, hid rfl⟩
                rw [HRR.out] at HRD
                clear WO WS HIO1
                rcases rr with ⟨e1 | bs, Dx⟩
                · obtain rfl : Dx = D1 := read_same_error HRR.out
                  have HBE : Hid (ioAgain p D0 = (.error e1, Dx)) := by
                    show _ = _
                    rw [HCP.out]
                    exact Io.and_error HRR.out
                  clear HCP HRR
                  go_wp2_with fail
                  have WO := HWO.out
                  have WS := HWS.out
                  refine region_mem (by kernel_rfl) (V := fun jv x => match jv with | 0 => x = (.agg #[.pointer (some ⟨g, 0, none⟩), .int .i64 (p : Int)] : Value) | 1 => x = (.agg #[.pointer (some ⟨g, 0, none⟩), .int .i64 (p : Int)] : Value) | 2 => x = (.int .i64 (nn : Int) : Value) | 3 => x = (.int .i64 (ho : Int) : Value) | 4 => x = (.int .i64 (k : Int) : Value) | 5 => x = (.int .i64 ((ho : Int) + (k : Int)) : Value) | 6 => x = (.agg #[.pointer (some ⟨g, 0, none⟩), .int .i64 (p : Int)] : Value) | 7 => x = (.agg #[.pointer (some ⟨g, 0, none⟩), .int .i64 (p : Int)] : Value) | 8 => x = (.int .i64 (nn : Int) : Value) | 9 => x = (.int .i64 (so : Int) : Value) | 10 => x = (.int .i64 (k : Int) : Value) | 11 => x = (.int .i64 ((so : Int) + (k : Int)) : Value) | 12 => False | 13 => False | _ => True) (A := (fun L => (if L 13 then devAt T8 g Dx else devAt T8 g Dx) * (pts w0.heap.size 84 [.pointer (some ⟨g, 0, none⟩), .int .i64 (p : Int)] * R2))) (Bs := []) HM.out (fun L L' h => by show (if L 13 then _ else _) * _ = (if L' 13 then _ else _) * _; rw [h 13 (by decide)]) (show ([] : List Nat).Nodup by decide) (by kernel_rfl) (by kernel_rfl) ?_ ?_
                  · refine ⟨?_, ?_, ?_, ?_, ?_, ?_, ?_, ?_, ?_, ?_, ?_, ?_, ?_, ?_, trivial⟩
                    · refine Fine2.run trivial _ rfl (fun _ => rfl) rfl rfl (fun L a w R' hw hm hmk hf => ?_)
                      have e1 : a.eval (.tmp 1) = (.pointer (some ⟨w0.heap.size, 0, none⟩) : Value) := (hf 1 (by decide +kernel)).old (by kernel_rfl)
                      simp only [Act.eval, Array.getD_eq_getD_getElem?] at e1
                      have hbx := hm.left.right
                      have q0 := hbx.cell 0
                      have q1 := hbx.cell 1
                      simp only [List.getElem?_cons_zero, List.getElem?_cons_succ] at q0 q1
                      simp [execOp, resolve, invoke, builtin, go_sem, e1, q0, q1]
                    · refine Fine2.run trivial _ rfl (fun _ => rfl) rfl rfl (fun L a w R' hw hm hmk hf => ?_)
                      have e1 : a.eval (.tmp 1) = (.pointer (some ⟨w0.heap.size, 0, none⟩) : Value) := (hf 1 (by decide +kernel)).old (by kernel_rfl)
                      simp only [Act.eval, Array.getD_eq_getD_getElem?] at e1
                      have hbx := hm.left.right
                      have q0 := hbx.cell 0
                      have q1 := hbx.cell 1
                      simp only [List.getElem?_cons_zero, List.getElem?_cons_succ] at q0 q1
                      simp [execOp, resolve, invoke, builtin, go_sem, e1, q0, q1]
                    · refine Fine2.run trivial _ rfl (fun _ => rfl) rfl rfl (fun L a w R' hw hm hmk hf => ?_)
                      have e6 : a.eval (.tmp 6) = (.int .i64 (nn : Int) : Value) := (hf 6 (by decide +kernel)).old (by kernel_rfl)
                      simp only [Act.eval, Array.getD_eq_getD_getElem?] at e6
                      simp [execOp, resolve, invoke, builtin, go_sem, e6]
                    · refine Fine2.call trivial rfl 47 #[(.agg #[.pointer (some ⟨g, 0, none⟩), .int .i64 (p : Int)]), (.int .i64 (nn : Int))] (fun a w hf => ?_) (fun L a w R' hL hw hm hmk hf => ?_)
                      · have e26 : a.eval (.tmp 26) = (.agg #[.pointer (some ⟨g, 0, none⟩), .int .i64 (p : Int)] : Value) := (hf 26 (by decide +kernel)).new 1 (by kernel_rfl) (by kernel_rfl)
                        have e27 : a.eval (.tmp 27) = (.int .i64 (nn : Int) : Value) := (hf 27 (by decide +kernel)).new 2 (by kernel_rfl) (by kernel_rfl)
                        simp only [Act.eval, Array.getD_eq_getD_getElem?] at e26 e27
                        simp [execOp, resolve, invoke, go_sem, e26, e27]
                      · refine (HHO.out w).mono ?_
                        rintro e w' ⟨rfl, hf'⟩
                        refine ⟨_, rfl, rfl, ?_⟩
                        have hm2 : Mem wb w' ((if L 13 then devAt T8 g Dx else devAt T8 g Dx) * (pts w0.heap.size 84 [.pointer (some ⟨g, 0, none⟩), .int .i64 (p : Int)] * R2) * R') := hm.fr hf'
                        show Mem wb w' ((if doneSet L 3 13 then devAt T8 g Dx else devAt T8 g Dx) * (pts w0.heap.size 84 [.pointer (some ⟨g, 0, none⟩), .int .i64 (p : Int)] * R2) * (emp * R'))
                        rw [show doneSet L 3 13 = L 13 from rfl, emp_sep]
                        exact hm2
                    · refine Fine2.run trivial _ rfl (fun _ => rfl) rfl rfl (fun L a w R' hw hm hmk hf => ?_)
                      have e7 : a.eval (.tmp 7) = (.int .i64 (k : Int) : Value) := (hf 7 (by decide +kernel)).old (by kernel_rfl)
                      simp only [Act.eval, Array.getD_eq_getD_getElem?] at e7
                      simp [execOp, resolve, invoke, builtin, go_sem, e7]
                    · refine Fine2.run trivial _ rfl (fun _ => rfl) rfl rfl (fun L a w R' hw hm hmk hf => ?_)
                      have e28 : a.eval (.tmp 28) = (.int .i64 (ho : Int) : Value) := (hf 28 (by decide +kernel)).new 3 (by kernel_rfl) (by kernel_rfl)
                      have e29 : a.eval (.tmp 29) = (.int .i64 (k : Int) : Value) := (hf 29 (by decide +kernel)).new 4 (by kernel_rfl) (by kernel_rfl)
                      simp only [Act.eval, Array.getD_eq_getD_getElem?] at e28 e29
                      simp [execOp, resolve, invoke, builtin, go_sem, e28, e29, WO]
                    · refine Fine2.run trivial _ rfl (fun _ => rfl) rfl rfl (fun L a w R' hw hm hmk hf => ?_)
                      have e1 : a.eval (.tmp 1) = (.pointer (some ⟨w0.heap.size, 0, none⟩) : Value) := (hf 1 (by decide +kernel)).old (by kernel_rfl)
                      simp only [Act.eval, Array.getD_eq_getD_getElem?] at e1
                      have hbx := hm.left.right
                      have q0 := hbx.cell 0
                      have q1 := hbx.cell 1
                      simp only [List.getElem?_cons_zero, List.getElem?_cons_succ] at q0 q1
                      simp [execOp, resolve, invoke, builtin, go_sem, e1, q0, q1]
                    · refine Fine2.run trivial _ rfl (fun _ => rfl) rfl rfl (fun L a w R' hw hm hmk hf => ?_)
                      have e1 : a.eval (.tmp 1) = (.pointer (some ⟨w0.heap.size, 0, none⟩) : Value) := (hf 1 (by decide +kernel)).old (by kernel_rfl)
                      simp only [Act.eval, Array.getD_eq_getD_getElem?] at e1
                      have hbx := hm.left.right
                      have q0 := hbx.cell 0
                      have q1 := hbx.cell 1
                      simp only [List.getElem?_cons_zero, List.getElem?_cons_succ] at q0 q1
                      simp [execOp, resolve, invoke, builtin, go_sem, e1, q0, q1]
                    · refine Fine2.run trivial _ rfl (fun _ => rfl) rfl rfl (fun L a w R' hw hm hmk hf => ?_)
                      have e6 : a.eval (.tmp 6) = (.int .i64 (nn : Int) : Value) := (hf 6 (by decide +kernel)).old (by kernel_rfl)
                      simp only [Act.eval, Array.getD_eq_getD_getElem?] at e6
                      simp [execOp, resolve, invoke, builtin, go_sem, e6]
                    · refine Fine2.call trivial rfl 57 #[(.agg #[.pointer (some ⟨g, 0, none⟩), .int .i64 (p : Int)]), (.int .i64 (nn : Int))] (fun a w hf => ?_) (fun L a w R' hL hw hm hmk hf => ?_)
                      · have e32 : a.eval (.tmp 32) = (.agg #[.pointer (some ⟨g, 0, none⟩), .int .i64 (p : Int)] : Value) := (hf 32 (by decide +kernel)).new 7 (by kernel_rfl) (by kernel_rfl)
                        have e33 : a.eval (.tmp 33) = (.int .i64 (nn : Int) : Value) := (hf 33 (by decide +kernel)).new 8 (by kernel_rfl) (by kernel_rfl)
                        simp only [Act.eval, Array.getD_eq_getD_getElem?] at e32 e33
                        simp [execOp, resolve, invoke, go_sem, e32, e33]
                      · refine (HSO.out w).mono ?_
                        rintro e w' ⟨rfl, hf'⟩
                        refine ⟨_, rfl, rfl, ?_⟩
                        have hm2 : Mem wb w' ((if L 13 then devAt T8 g Dx else devAt T8 g Dx) * (pts w0.heap.size 84 [.pointer (some ⟨g, 0, none⟩), .int .i64 (p : Int)] * R2) * R') := hm.fr hf'
                        show Mem wb w' ((if doneSet L 9 13 then devAt T8 g Dx else devAt T8 g Dx) * (pts w0.heap.size 84 [.pointer (some ⟨g, 0, none⟩), .int .i64 (p : Int)] * R2) * (emp * R'))
                        rw [show doneSet L 9 13 = L 13 from rfl, emp_sep]
                        exact hm2
                    · refine Fine2.run trivial _ rfl (fun _ => rfl) rfl rfl (fun L a w R' hw hm hmk hf => ?_)
                      have e7 : a.eval (.tmp 7) = (.int .i64 (k : Int) : Value) := (hf 7 (by decide +kernel)).old (by kernel_rfl)
                      simp only [Act.eval, Array.getD_eq_getD_getElem?] at e7
                      simp [execOp, resolve, invoke, builtin, go_sem, e7]
                    · refine Fine2.run trivial _ rfl (fun _ => rfl) rfl rfl (fun L a w R' hw hm hmk hf => ?_)
                      have e34 : a.eval (.tmp 34) = (.int .i64 (so : Int) : Value) := (hf 34 (by decide +kernel)).new 9 (by kernel_rfl) (by kernel_rfl)
                      have e35 : a.eval (.tmp 35) = (.int .i64 (k : Int) : Value) := (hf 35 (by decide +kernel)).new 10 (by kernel_rfl) (by kernel_rfl)
                      simp only [Act.eval, Array.getD_eq_getD_getElem?] at e34 e35
                      simp [execOp, resolve, invoke, builtin, go_sem, e34, e35, WS]
                    · refine Fine2.callP trivial rfl 48 #[(.agg #[.pointer (some ⟨g, 0, none⟩), .int .i64 (p : Int)]), (.int .i64 ((so : Int) + (k : Int)))] (fun a w hf => ?_) (fun L a w R' hL hw hm hmk hf hdf hcl => ?_)
                      · have e31 : a.eval (.tmp 31) = (.agg #[.pointer (some ⟨g, 0, none⟩), .int .i64 (p : Int)] : Value) := (hf 31 (by decide +kernel)).new 6 (by kernel_rfl) (by kernel_rfl)
                        have e36 : a.eval (.tmp 36) = (.int .i64 ((so : Int) + (k : Int)) : Value) := (hf 36 (by decide +kernel)).new 11 (by kernel_rfl) (by kernel_rfl)
                        simp only [Act.eval, Array.getD_eq_getD_getElem?] at e31 e36
                        simp [execOp, resolve, invoke, go_sem, e31, e36]
                      · have hm : Mem wb w ((if L 13 then devAt T8 g Dx else devAt T8 g Dx) * (pts w0.heap.size 84 [.pointer (some ⟨g, 0, none⟩), .int .i64 (p : Int)] * R2) * R') := hm
                        rw [ite_self] at hm
                        refine (HRD.out w (pts w0.heap.size 84 [.pointer (some ⟨g, 0, none⟩), .int .i64 (p : Int)] * R2 * R') (hm.eq (by ac_rfl))).mono ?_
                        intro e w' hs'
                        obtain ⟨rfl, hc, hm2⟩ := hs'.error rfl
                        exact .inr ⟨_, rfl, hdf, FIN.out _ _ _ HBE.out hc (hm2.eq (by ac_rfl) : Mem wb w' (pts w0.heap.size 84 [.pointer (some ⟨g, 0, none⟩), .int .i64 (p : Int)] * R' * (devAt T8 g Dx * R2))).right⟩
                    · exact Fine2.never trivial 37 (by decide +kernel) (fun a h => h.new 12 (by kernel_rfl) (by kernel_rfl))
                  · intro u w9 hu hm9
                    exact absurd (hu 38 13 rfl) (fun h => h)
                · obtain rfl : Dx = D1 := read_same HRR.out
                  have HBW : Hid (ioAgain p D0 = ((ioWrite (ho + k) bs).and fun _ => (redoFrom p nn (l.drop (j + 1)) (k + 1)).and rest) Dx) := by
                    show _ = _
                    rw [HCP.out]
                    exact Io.and_ok HRR.out
                  have HW : Hid (∀ w R' a2 c2, Mem wb w (devAt T8 g Dx * R') → Sl w a2 bs.length c2 (byts bs) → Calls Tryz.prog 59 #[(.agg #[.pointer (some ⟨g, 0, none⟩), .int .i64 (p : Int)]), .int .i64 ((ho : Int) + (k : Int)), .slice a2 bs.length c2] w (IoSays wb g R' (ioWrite (ho + k) bs Dx) unitB)) := by
                    show ∀ w R' a2 c2, _
                    intro w R' a2 c2 h hs
                    have := dwrite_any wb w R' g Dx h (by omega) (ho + k) (by omega) (p : Int) a2 _ c2 bs hs
                    rw [show ((ho + k : Nat) : Int) = (ho : Int) + (k : Int) by omega] at this
                    exact this
                  obtain ⟨rw2, HRW⟩ : ∃ r, Hid (ioWrite (ho + k) bs Dx = r) := ⟨_, hid rfl⟩
                  have HG : Hid (rw2.2.pend.length ≤ Dx.pend.length + 1) := by rw [← HRW.out]; exact hid (Io.Grows.write (ho + k) bs Dx)
                  rw [HRW.out] at HW
                  clear HCP HRR
                  rcases rw2 with ⟨e2 | u2, D2⟩
                  · have HBE : Hid (ioAgain p D0 = (.error e2, D2)) := by
                      show _ = _
                      rw [HBW.out]
                      exact Io.and_error HRW.out
                    clear HBW HRW HG
                    go_wp2_with fail
                    have WO := HWO.out
                    have WS := HWS.out
                    refine region_mem (by kernel_rfl) (V := fun jv x => match jv with | 0 => x = (.agg #[.pointer (some ⟨g, 0, none⟩), .int .i64 (p : Int)] : Value) | 1 => x = (.agg #[.pointer (some ⟨g, 0, none⟩), .int .i64 (p : Int)] : Value) | 2 => x = (.int .i64 (nn : Int) : Value) | 3 => x = (.int .i64 (ho : Int) : Value) | 4 => x = (.int .i64 (k : Int) : Value) | 5 => x = (.int .i64 ((ho : Int) + (k : Int)) : Value) | 6 => x = (.agg #[.pointer (some ⟨g, 0, none⟩), .int .i64 (p : Int)] : Value) | 7 => x = (.agg #[.pointer (some ⟨g, 0, none⟩), .int .i64 (p : Int)] : Value) | 8 => x = (.int .i64 (nn : Int) : Value) | 9 => x = (.int .i64 (so : Int) : Value) | 10 => x = (.int .i64 (k : Int) : Value) | 11 => x = (.int .i64 ((so : Int) + (k : Int)) : Value) | 12 => ∃ a2 c2, x = (.slice a2 bs.length c2 : Value) | 13 => False | _ => True) (A := (fun L => (if L 13 then devAt T8 g D2 else devAt T8 g Dx) * (pts w0.heap.size 84 [.pointer (some ⟨g, 0, none⟩), .int .i64 (p : Int)] * R2))) (Bs := [(12, none, bytesB bs)]) HM.out (fun L L' h => by show (if L 13 then _ else _) * _ = (if L' 13 then _ else _) * _; rw [h 13 (by decide)]) (show ([12] : List Nat).Nodup by decide) (by kernel_rfl) (by kernel_rfl) ?_ ?_
                    · refine ⟨?_, ?_, ?_, ?_, ?_, ?_, ?_, ?_, ?_, ?_, ?_, ?_, ?_, ?_, trivial⟩
                      · refine Fine2.run trivial _ rfl (fun _ => rfl) rfl rfl (fun L a w R' hw hm hmk hf => ?_)
                        have e1 : a.eval (.tmp 1) = (.pointer (some ⟨w0.heap.size, 0, none⟩) : Value) := (hf 1 (by decide +kernel)).old (by kernel_rfl)
                        simp only [Act.eval, Array.getD_eq_getD_getElem?] at e1
                        have hbx := hm.left.right
                        have q0 := hbx.cell 0
                        have q1 := hbx.cell 1
                        simp only [List.getElem?_cons_zero, List.getElem?_cons_succ] at q0 q1
                        simp [execOp, resolve, invoke, builtin, go_sem, e1, q0, q1]
                      · refine Fine2.run trivial _ rfl (fun _ => rfl) rfl rfl (fun L a w R' hw hm hmk hf => ?_)
                        have e1 : a.eval (.tmp 1) = (.pointer (some ⟨w0.heap.size, 0, none⟩) : Value) := (hf 1 (by decide +kernel)).old (by kernel_rfl)
                        simp only [Act.eval, Array.getD_eq_getD_getElem?] at e1
                        have hbx := hm.left.right
                        have q0 := hbx.cell 0
                        have q1 := hbx.cell 1
                        simp only [List.getElem?_cons_zero, List.getElem?_cons_succ] at q0 q1
                        simp [execOp, resolve, invoke, builtin, go_sem, e1, q0, q1]
                      · refine Fine2.run trivial _ rfl (fun _ => rfl) rfl rfl (fun L a w R' hw hm hmk hf => ?_)
                        have e6 : a.eval (.tmp 6) = (.int .i64 (nn : Int) : Value) := (hf 6 (by decide +kernel)).old (by kernel_rfl)
                        simp only [Act.eval, Array.getD_eq_getD_getElem?] at e6
                        simp [execOp, resolve, invoke, builtin, go_sem, e6]
                      · refine Fine2.call trivial rfl 47 #[(.agg #[.pointer (some ⟨g, 0, none⟩), .int .i64 (p : Int)]), (.int .i64 (nn : Int))] (fun a w hf => ?_) (fun L a w R' hL hw hm hmk hf => ?_)
                        · have e26 : a.eval (.tmp 26) = (.agg #[.pointer (some ⟨g, 0, none⟩), .int .i64 (p : Int)] : Value) := (hf 26 (by decide +kernel)).new 1 (by kernel_rfl) (by kernel_rfl)
                          have e27 : a.eval (.tmp 27) = (.int .i64 (nn : Int) : Value) := (hf 27 (by decide +kernel)).new 2 (by kernel_rfl) (by kernel_rfl)
                          simp only [Act.eval, Array.getD_eq_getD_getElem?] at e26 e27
                          simp [execOp, resolve, invoke, go_sem, e26, e27]
                        · refine (HHO.out w).mono ?_
                          rintro e w' ⟨rfl, hf'⟩
                          refine ⟨_, rfl, rfl, ?_⟩
                          have hm2 : Mem wb w' ((if L 13 then devAt T8 g D2 else devAt T8 g Dx) * (pts w0.heap.size 84 [.pointer (some ⟨g, 0, none⟩), .int .i64 (p : Int)] * R2) * R') := hm.fr hf'
                          show Mem wb w' ((if doneSet L 3 13 then devAt T8 g D2 else devAt T8 g Dx) * (pts w0.heap.size 84 [.pointer (some ⟨g, 0, none⟩), .int .i64 (p : Int)] * R2) * (emp * R'))
                          rw [show doneSet L 3 13 = L 13 from rfl, emp_sep]
                          exact hm2
                      · refine Fine2.run trivial _ rfl (fun _ => rfl) rfl rfl (fun L a w R' hw hm hmk hf => ?_)
                        have e7 : a.eval (.tmp 7) = (.int .i64 (k : Int) : Value) := (hf 7 (by decide +kernel)).old (by kernel_rfl)
                        simp only [Act.eval, Array.getD_eq_getD_getElem?] at e7
                        simp [execOp, resolve, invoke, builtin, go_sem, e7]
                      · refine Fine2.run trivial _ rfl (fun _ => rfl) rfl rfl (fun L a w R' hw hm hmk hf => ?_)
                        have e28 : a.eval (.tmp 28) = (.int .i64 (ho : Int) : Value) := (hf 28 (by decide +kernel)).new 3 (by kernel_rfl) (by kernel_rfl)
                        have e29 : a.eval (.tmp 29) = (.int .i64 (k : Int) : Value) := (hf 29 (by decide +kernel)).new 4 (by kernel_rfl) (by kernel_rfl)
                        simp only [Act.eval, Array.getD_eq_getD_getElem?] at e28 e29
                        simp [execOp, resolve, invoke, builtin, go_sem, e28, e29, WO]
                      · refine Fine2.run trivial _ rfl (fun _ => rfl) rfl rfl (fun L a w R' hw hm hmk hf => ?_)
                        have e1 : a.eval (.tmp 1) = (.pointer (some ⟨w0.heap.size, 0, none⟩) : Value) := (hf 1 (by decide +kernel)).old (by kernel_rfl)
                        simp only [Act.eval, Array.getD_eq_getD_getElem?] at e1
                        have hbx := hm.left.right
                        have q0 := hbx.cell 0
                        have q1 := hbx.cell 1
                        simp only [List.getElem?_cons_zero, List.getElem?_cons_succ] at q0 q1
                        simp [execOp, resolve, invoke, builtin, go_sem, e1, q0, q1]
                      · refine Fine2.run trivial _ rfl (fun _ => rfl) rfl rfl (fun L a w R' hw hm hmk hf => ?_)
                        have e1 : a.eval (.tmp 1) = (.pointer (some ⟨w0.heap.size, 0, none⟩) : Value) := (hf 1 (by decide +kernel)).old (by kernel_rfl)
                        simp only [Act.eval, Array.getD_eq_getD_getElem?] at e1
                        have hbx := hm.left.right
                        have q0 := hbx.cell 0
                        have q1 := hbx.cell 1
                        simp only [List.getElem?_cons_zero, List.getElem?_cons_succ] at q0 q1
                        simp [execOp, resolve, invoke, builtin, go_sem, e1, q0, q1]
                      · refine Fine2.run trivial _ rfl (fun _ => rfl) rfl rfl (fun L a w R' hw hm hmk hf => ?_)
                        have e6 : a.eval (.tmp 6) = (.int .i64 (nn : Int) : Value) := (hf 6 (by decide +kernel)).old (by kernel_rfl)
                        simp only [Act.eval, Array.getD_eq_getD_getElem?] at e6
                        simp [execOp, resolve, invoke, builtin, go_sem, e6]
                      · refine Fine2.call trivial rfl 57 #[(.agg #[.pointer (some ⟨g, 0, none⟩), .int .i64 (p : Int)]), (.int .i64 (nn : Int))] (fun a w hf => ?_) (fun L a w R' hL hw hm hmk hf => ?_)
                        · have e32 : a.eval (.tmp 32) = (.agg #[.pointer (some ⟨g, 0, none⟩), .int .i64 (p : Int)] : Value) := (hf 32 (by decide +kernel)).new 7 (by kernel_rfl) (by kernel_rfl)
                          have e33 : a.eval (.tmp 33) = (.int .i64 (nn : Int) : Value) := (hf 33 (by decide +kernel)).new 8 (by kernel_rfl) (by kernel_rfl)
                          simp only [Act.eval, Array.getD_eq_getD_getElem?] at e32 e33
                          simp [execOp, resolve, invoke, go_sem, e32, e33]
                        · refine (HSO.out w).mono ?_
                          rintro e w' ⟨rfl, hf'⟩
                          refine ⟨_, rfl, rfl, ?_⟩
                          have hm2 : Mem wb w' ((if L 13 then devAt T8 g D2 else devAt T8 g Dx) * (pts w0.heap.size 84 [.pointer (some ⟨g, 0, none⟩), .int .i64 (p : Int)] * R2) * R') := hm.fr hf'
                          show Mem wb w' ((if doneSet L 9 13 then devAt T8 g D2 else devAt T8 g Dx) * (pts w0.heap.size 84 [.pointer (some ⟨g, 0, none⟩), .int .i64 (p : Int)] * R2) * (emp * R'))
                          rw [show doneSet L 9 13 = L 13 from rfl, emp_sep]
                          exact hm2
                      · refine Fine2.run trivial _ rfl (fun _ => rfl) rfl rfl (fun L a w R' hw hm hmk hf => ?_)
                        have e7 : a.eval (.tmp 7) = (.int .i64 (k : Int) : Value) := (hf 7 (by decide +kernel)).old (by kernel_rfl)
                        simp only [Act.eval, Array.getD_eq_getD_getElem?] at e7
                        simp [execOp, resolve, invoke, builtin, go_sem, e7]
                      · refine Fine2.run trivial _ rfl (fun _ => rfl) rfl rfl (fun L a w R' hw hm hmk hf => ?_)
                        have e34 : a.eval (.tmp 34) = (.int .i64 (so : Int) : Value) := (hf 34 (by decide +kernel)).new 9 (by kernel_rfl) (by kernel_rfl)
                        have e35 : a.eval (.tmp 35) = (.int .i64 (k : Int) : Value) := (hf 35 (by decide +kernel)).new 10 (by kernel_rfl) (by kernel_rfl)
                        simp only [Act.eval, Array.getD_eq_getD_getElem?] at e34 e35
                        simp [execOp, resolve, invoke, builtin, go_sem, e34, e35, WS]
                      · refine Fine2.callP trivial rfl 48 #[(.agg #[.pointer (some ⟨g, 0, none⟩), .int .i64 (p : Int)]), (.int .i64 ((so : Int) + (k : Int)))] (fun a w hf => ?_) (fun L a w R' hL hw hm hmk hf hdf hcl => ?_)
                        · have e31 : a.eval (.tmp 31) = (.agg #[.pointer (some ⟨g, 0, none⟩), .int .i64 (p : Int)] : Value) := (hf 31 (by decide +kernel)).new 6 (by kernel_rfl) (by kernel_rfl)
                          have e36 : a.eval (.tmp 36) = (.int .i64 ((so : Int) + (k : Int)) : Value) := (hf 36 (by decide +kernel)).new 11 (by kernel_rfl) (by kernel_rfl)
                          simp only [Act.eval, Array.getD_eq_getD_getElem?] at e31 e36
                          simp [execOp, resolve, invoke, go_sem, e31, e36]
                        · have hm : Mem wb w ((if L 13 then devAt T8 g D2 else devAt T8 g Dx) * (pts w0.heap.size 84 [.pointer (some ⟨g, 0, none⟩), .int .i64 (p : Int)] * R2) * R') := hm
                          have hL13 : L 13 = false := not_done hcl hL 13 _ rfl (by kernel_rfl)
                          rw [hL13] at hm
                          have hm : Mem wb w (devAt T8 g Dx * (pts w0.heap.size 84 [.pointer (some ⟨g, 0, none⟩), .int .i64 (p : Int)] * R2) * R') := hm
                          refine (HRD.out w (pts w0.heap.size 84 [.pointer (some ⟨g, 0, none⟩), .int .i64 (p : Int)] * R2 * R') (hm.eq (by ac_rfl))).mono ?_
                          intro e w' hs'
                          obtain ⟨v, rfl, hm2⟩ := hs'.ok rfl
                          obtain ⟨a2, c2, hv, -⟩ := Mem.rowB.1 hm2
                          refine .inl ⟨v, rfl, ⟨a2, c2, hv⟩, ?_⟩
                          show Mem wb w' ((if doneSet L 12 13 then devAt T8 g D2 else devAt T8 g Dx) * (pts w0.heap.size 84 [.pointer (some ⟨g, 0, none⟩), .int .i64 (p : Int)] * R2) * (bytesB bs v * R'))
                          rw [show doneSet L 12 13 = L 13 from rfl, hL13]
                          exact hm2.eq (by show _ = devAt T8 g Dx * (pts w0.heap.size 84 [.pointer (some ⟨g, 0, none⟩), .int .i64 (p : Int)] * R2) * (bytesB bs v * R'); ac_rfl)
                      · refine .inl ⟨trivial, fun L a w Kq Rq hL hw hm hmk hf hdf hcl hK => ?_⟩
                        rw [eaten_none rfl, emp_sep] at hm
                        obtain ⟨R3, hR3⟩ := hmk [true] (by kernel_rfl)
                        have hm : Mem wb w ((if L 13 then devAt T8 g D2 else devAt T8 g Dx) * (pts w0.heap.size 84 [.pointer (some ⟨g, 0, none⟩), .int .i64 (p : Int)] * R2) * Rq) := hm
                        rw [hL] at hm
                        have hm : Mem wb w (devAt T8 g Dx * (pts w0.heap.size 84 [.pointer (some ⟨g, 0, none⟩), .int .i64 (p : Int)] * R2) * Rq) := hm
                        have hm' := hm
                        rw [hR3] at hm'
                        obtain ⟨a2, c2, y, m1⟩ := Mem.rowB.1 (show Mem wb w (_ * (_ * R3)) from hm').p1
                        have e37 : a.eval (.tmp 37) = .slice a2 bs.length c2 := y
                        have e25 : a.eval (.tmp 25) = (.agg #[.pointer (some ⟨g, 0, none⟩), .int .i64 (p : Int)] : Value) := (hf 25 (by decide +kernel)).new 0 (by kernel_rfl) (by kernel_rfl)
                        have e30 : a.eval (.tmp 30) = (.int .i64 ((ho : Int) + (k : Int)) : Value) := (hf 30 (by decide +kernel)).new 5 (by kernel_rfl) (by kernel_rfl)
                        simp only [Act.eval, Array.getD_eq_getD_getElem?] at e25 e30 e37
                        unfold Oper.wp
                        rw [show (execOp a.eval _).run Tryz.prog w = .ok (.enter 59 #[(.agg #[.pointer (some ⟨g, 0, none⟩), .int .i64 (p : Int)]), (.int .i64 ((ho : Int) + (k : Int))), .slice a2 bs.length c2]) w from by simp [execOp, resolve, invoke, go_sem, e25, e30, e37]]
                        refine (HW.out w (pts w0.heap.size 84 [.pointer (some ⟨g, 0, none⟩), .int .i64 (p : Int)] * R2 * Rq) a2 c2 (hm.eq (by ac_rfl)) m1.row_sl).mono ?_
                        intro e w' hs'
                        obtain ⟨rfl, hc, hm2⟩ := hs'.error rfl
                        exact ⟨hdf, FIN.out _ _ _ HBE.out hc (hm2.eq (by ac_rfl) : Mem wb w' (pts w0.heap.size 84 [.pointer (some ⟨g, 0, none⟩), .int .i64 (p : Int)] * Rq * (devAt T8 g D2 * R2))).right⟩
                    · intro u w9 hu hm9
                      exact absurd (hu 38 13 rfl) (fun h => h)
                  · have HBE : Hid (ioAgain p D0 = ((redoFrom p nn (l.drop (j + 1)) (k + 1)).and rest) D2) := by
                      show _ = _
                      rw [HBW.out]
                      exact Io.and_ok HRW.out
                    have HPD : Hid (D2.pend.length ≤ D0.pend.length + 2 * j + (k + 1)) := by show _ ≤ _; have h2 : D2.pend.length ≤ Dx.pend.length + 1 := HG.out; omega
                    clear HBW HRW HG
                    go_wp2_with fail
                    have WO := HWO.out
                    have WS := HWS.out
                    refine region_mem (by kernel_rfl) (V := fun jv x => match jv with | 0 => x = (.agg #[.pointer (some ⟨g, 0, none⟩), .int .i64 (p : Int)] : Value) | 1 => x = (.agg #[.pointer (some ⟨g, 0, none⟩), .int .i64 (p : Int)] : Value) | 2 => x = (.int .i64 (nn : Int) : Value) | 3 => x = (.int .i64 (ho : Int) : Value) | 4 => x = (.int .i64 (k : Int) : Value) | 5 => x = (.int .i64 ((ho : Int) + (k : Int)) : Value) | 6 => x = (.agg #[.pointer (some ⟨g, 0, none⟩), .int .i64 (p : Int)] : Value) | 7 => x = (.agg #[.pointer (some ⟨g, 0, none⟩), .int .i64 (p : Int)] : Value) | 8 => x = (.int .i64 (nn : Int) : Value) | 9 => x = (.int .i64 (so : Int) : Value) | 10 => x = (.int .i64 (k : Int) : Value) | 11 => x = (.int .i64 ((so : Int) + (k : Int)) : Value) | 12 => ∃ a2 c2, x = (.slice a2 bs.length c2 : Value) | 13 => x = (.tuple #[] : Value) | _ => True) (A := (fun L => (if L 13 then devAt T8 g D2 else devAt T8 g Dx) * (pts w0.heap.size 84 [.pointer (some ⟨g, 0, none⟩), .int .i64 (p : Int)] * R2))) (Bs := [(12, none, bytesB bs)]) HM.out (fun L L' h => by show (if L 13 then _ else _) * _ = (if L' 13 then _ else _) * _; rw [h 13 (by decide)]) (show ([12] : List Nat).Nodup by decide) (by kernel_rfl) (by kernel_rfl) ?_ ?_
                    · refine ⟨?_, ?_, ?_, ?_, ?_, ?_, ?_, ?_, ?_, ?_, ?_, ?_, ?_, ?_, trivial⟩
                      · refine Fine2.run trivial _ rfl (fun _ => rfl) rfl rfl (fun L a w R' hw hm hmk hf => ?_)
                        have e1 : a.eval (.tmp 1) = (.pointer (some ⟨w0.heap.size, 0, none⟩) : Value) := (hf 1 (by decide +kernel)).old (by kernel_rfl)
                        simp only [Act.eval, Array.getD_eq_getD_getElem?] at e1
                        have hbx := hm.left.right
                        have q0 := hbx.cell 0
                        have q1 := hbx.cell 1
                        simp only [List.getElem?_cons_zero, List.getElem?_cons_succ] at q0 q1
                        simp [execOp, resolve, invoke, builtin, go_sem, e1, q0, q1]
                      · refine Fine2.run trivial _ rfl (fun _ => rfl) rfl rfl (fun L a w R' hw hm hmk hf => ?_)
                        have e1 : a.eval (.tmp 1) = (.pointer (some ⟨w0.heap.size, 0, none⟩) : Value) := (hf 1 (by decide +kernel)).old (by kernel_rfl)
                        simp only [Act.eval, Array.getD_eq_getD_getElem?] at e1
                        have hbx := hm.left.right
                        have q0 := hbx.cell 0
                        have q1 := hbx.cell 1
                        simp only [List.getElem?_cons_zero, List.getElem?_cons_succ] at q0 q1
                        simp [execOp, resolve, invoke, builtin, go_sem, e1, q0, q1]
                      · refine Fine2.run trivial _ rfl (fun _ => rfl) rfl rfl (fun L a w R' hw hm hmk hf => ?_)
                        have e6 : a.eval (.tmp 6) = (.int .i64 (nn : Int) : Value) := (hf 6 (by decide +kernel)).old (by kernel_rfl)
                        simp only [Act.eval, Array.getD_eq_getD_getElem?] at e6
                        simp [execOp, resolve, invoke, builtin, go_sem, e6]
                      · refine Fine2.call trivial rfl 47 #[(.agg #[.pointer (some ⟨g, 0, none⟩), .int .i64 (p : Int)]), (.int .i64 (nn : Int))] (fun a w hf => ?_) (fun L a w R' hL hw hm hmk hf => ?_)
                        · have e26 : a.eval (.tmp 26) = (.agg #[.pointer (some ⟨g, 0, none⟩), .int .i64 (p : Int)] : Value) := (hf 26 (by decide +kernel)).new 1 (by kernel_rfl) (by kernel_rfl)
                          have e27 : a.eval (.tmp 27) = (.int .i64 (nn : Int) : Value) := (hf 27 (by decide +kernel)).new 2 (by kernel_rfl) (by kernel_rfl)
                          simp only [Act.eval, Array.getD_eq_getD_getElem?] at e26 e27
                          simp [execOp, resolve, invoke, go_sem, e26, e27]
                        · refine (HHO.out w).mono ?_
                          rintro e w' ⟨rfl, hf'⟩
                          refine ⟨_, rfl, rfl, ?_⟩
                          have hm2 : Mem wb w' ((if L 13 then devAt T8 g D2 else devAt T8 g Dx) * (pts w0.heap.size 84 [.pointer (some ⟨g, 0, none⟩), .int .i64 (p : Int)] * R2) * R') := hm.fr hf'
                          show Mem wb w' ((if doneSet L 3 13 then devAt T8 g D2 else devAt T8 g Dx) * (pts w0.heap.size 84 [.pointer (some ⟨g, 0, none⟩), .int .i64 (p : Int)] * R2) * (emp * R'))
                          rw [show doneSet L 3 13 = L 13 from rfl, emp_sep]
                          exact hm2
                      · refine Fine2.run trivial _ rfl (fun _ => rfl) rfl rfl (fun L a w R' hw hm hmk hf => ?_)
                        have e7 : a.eval (.tmp 7) = (.int .i64 (k : Int) : Value) := (hf 7 (by decide +kernel)).old (by kernel_rfl)
                        simp only [Act.eval, Array.getD_eq_getD_getElem?] at e7
                        simp [execOp, resolve, invoke, builtin, go_sem, e7]
                      · refine Fine2.run trivial _ rfl (fun _ => rfl) rfl rfl (fun L a w R' hw hm hmk hf => ?_)
                        have e28 : a.eval (.tmp 28) = (.int .i64 (ho : Int) : Value) := (hf 28 (by decide +kernel)).new 3 (by kernel_rfl) (by kernel_rfl)
                        have e29 : a.eval (.tmp 29) = (.int .i64 (k : Int) : Value) := (hf 29 (by decide +kernel)).new 4 (by kernel_rfl) (by kernel_rfl)
                        simp only [Act.eval, Array.getD_eq_getD_getElem?] at e28 e29
                        simp [execOp, resolve, invoke, builtin, go_sem, e28, e29, WO]
                      · refine Fine2.run trivial _ rfl (fun _ => rfl) rfl rfl (fun L a w R' hw hm hmk hf => ?_)
                        have e1 : a.eval (.tmp 1) = (.pointer (some ⟨w0.heap.size, 0, none⟩) : Value) := (hf 1 (by decide +kernel)).old (by kernel_rfl)
                        simp only [Act.eval, Array.getD_eq_getD_getElem?] at e1
                        have hbx := hm.left.right
                        have q0 := hbx.cell 0
                        have q1 := hbx.cell 1
                        simp only [List.getElem?_cons_zero, List.getElem?_cons_succ] at q0 q1
                        simp [execOp, resolve, invoke, builtin, go_sem, e1, q0, q1]
                      · refine Fine2.run trivial _ rfl (fun _ => rfl) rfl rfl (fun L a w R' hw hm hmk hf => ?_)
                        have e1 : a.eval (.tmp 1) = (.pointer (some ⟨w0.heap.size, 0, none⟩) : Value) := (hf 1 (by decide +kernel)).old (by kernel_rfl)
                        simp only [Act.eval, Array.getD_eq_getD_getElem?] at e1
                        have hbx := hm.left.right
                        have q0 := hbx.cell 0
                        have q1 := hbx.cell 1
                        simp only [List.getElem?_cons_zero, List.getElem?_cons_succ] at q0 q1
                        simp [execOp, resolve, invoke, builtin, go_sem, e1, q0, q1]
                      · refine Fine2.run trivial _ rfl (fun _ => rfl) rfl rfl (fun L a w R' hw hm hmk hf => ?_)
                        have e6 : a.eval (.tmp 6) = (.int .i64 (nn : Int) : Value) := (hf 6 (by decide +kernel)).old (by kernel_rfl)
                        simp only [Act.eval, Array.getD_eq_getD_getElem?] at e6
                        simp [execOp, resolve, invoke, builtin, go_sem, e6]
                      · refine Fine2.call trivial rfl 57 #[(.agg #[.pointer (some ⟨g, 0, none⟩), .int .i64 (p : Int)]), (.int .i64 (nn : Int))] (fun a w hf => ?_) (fun L a w R' hL hw hm hmk hf => ?_)
                        · have e32 : a.eval (.tmp 32) = (.agg #[.pointer (some ⟨g, 0, none⟩), .int .i64 (p : Int)] : Value) := (hf 32 (by decide +kernel)).new 7 (by kernel_rfl) (by kernel_rfl)
                          have e33 : a.eval (.tmp 33) = (.int .i64 (nn : Int) : Value) := (hf 33 (by decide +kernel)).new 8 (by kernel_rfl) (by kernel_rfl)
                          simp only [Act.eval, Array.getD_eq_getD_getElem?] at e32 e33
                          simp [execOp, resolve, invoke, go_sem, e32, e33]
                        · refine (HSO.out w).mono ?_
                          rintro e w' ⟨rfl, hf'⟩
                          refine ⟨_, rfl, rfl, ?_⟩
                          have hm2 : Mem wb w' ((if L 13 then devAt T8 g D2 else devAt T8 g Dx) * (pts w0.heap.size 84 [.pointer (some ⟨g, 0, none⟩), .int .i64 (p : Int)] * R2) * R') := hm.fr hf'
                          show Mem wb w' ((if doneSet L 9 13 then devAt T8 g D2 else devAt T8 g Dx) * (pts w0.heap.size 84 [.pointer (some ⟨g, 0, none⟩), .int .i64 (p : Int)] * R2) * (emp * R'))
                          rw [show doneSet L 9 13 = L 13 from rfl, emp_sep]
                          exact hm2
                      · refine Fine2.run trivial _ rfl (fun _ => rfl) rfl rfl (fun L a w R' hw hm hmk hf => ?_)
                        have e7 : a.eval (.tmp 7) = (.int .i64 (k : Int) : Value) := (hf 7 (by decide +kernel)).old (by kernel_rfl)
                        simp only [Act.eval, Array.getD_eq_getD_getElem?] at e7
                        simp [execOp, resolve, invoke, builtin, go_sem, e7]
                      · refine Fine2.run trivial _ rfl (fun _ => rfl) rfl rfl (fun L a w R' hw hm hmk hf => ?_)
                        have e34 : a.eval (.tmp 34) = (.int .i64 (so : Int) : Value) := (hf 34 (by decide +kernel)).new 9 (by kernel_rfl) (by kernel_rfl)
                        have e35 : a.eval (.tmp 35) = (.int .i64 (k : Int) : Value) := (hf 35 (by decide +kernel)).new 10 (by kernel_rfl) (by kernel_rfl)
                        simp only [Act.eval, Array.getD_eq_getD_getElem?] at e34 e35
                        simp [execOp, resolve, invoke, builtin, go_sem, e34, e35, WS]
                      · refine Fine2.callP trivial rfl 48 #[(.agg #[.pointer (some ⟨g, 0, none⟩), .int .i64 (p : Int)]), (.int .i64 ((so : Int) + (k : Int)))] (fun a w hf => ?_) (fun L a w R' hL hw hm hmk hf hdf hcl => ?_)
                        · have e31 : a.eval (.tmp 31) = (.agg #[.pointer (some ⟨g, 0, none⟩), .int .i64 (p : Int)] : Value) := (hf 31 (by decide +kernel)).new 6 (by kernel_rfl) (by kernel_rfl)
                          have e36 : a.eval (.tmp 36) = (.int .i64 ((so : Int) + (k : Int)) : Value) := (hf 36 (by decide +kernel)).new 11 (by kernel_rfl) (by kernel_rfl)
                          simp only [Act.eval, Array.getD_eq_getD_getElem?] at e31 e36
                          simp [execOp, resolve, invoke, go_sem, e31, e36]
                        · have hm : Mem wb w ((if L 13 then devAt T8 g D2 else devAt T8 g Dx) * (pts w0.heap.size 84 [.pointer (some ⟨g, 0, none⟩), .int .i64 (p : Int)] * R2) * R') := hm
                          have hL13 : L 13 = false := not_done hcl hL 13 _ rfl (by kernel_rfl)
                          rw [hL13] at hm
                          have hm : Mem wb w (devAt T8 g Dx * (pts w0.heap.size 84 [.pointer (some ⟨g, 0, none⟩), .int .i64 (p : Int)] * R2) * R') := hm
                          refine (HRD.out w (pts w0.heap.size 84 [.pointer (some ⟨g, 0, none⟩), .int .i64 (p : Int)] * R2 * R') (hm.eq (by ac_rfl))).mono ?_
                          intro e w' hs'
                          obtain ⟨v, rfl, hm2⟩ := hs'.ok rfl
                          obtain ⟨a2, c2, hv, -⟩ := Mem.rowB.1 hm2
                          refine .inl ⟨v, rfl, ⟨a2, c2, hv⟩, ?_⟩
                          show Mem wb w' ((if doneSet L 12 13 then devAt T8 g D2 else devAt T8 g Dx) * (pts w0.heap.size 84 [.pointer (some ⟨g, 0, none⟩), .int .i64 (p : Int)] * R2) * (bytesB bs v * R'))
                          rw [show doneSet L 12 13 = L 13 from rfl, hL13]
                          exact hm2.eq (by show _ = devAt T8 g Dx * (pts w0.heap.size 84 [.pointer (some ⟨g, 0, none⟩), .int .i64 (p : Int)] * R2) * (bytesB bs v * R'); ac_rfl)
                      · refine .inl ⟨trivial, fun L a w Kq Rq hL hw hm hmk hf hdf hcl hK => ?_⟩
                        rw [eaten_none rfl, emp_sep] at hm
                        obtain ⟨R3, hR3⟩ := hmk [true] (by kernel_rfl)
                        have hm : Mem wb w ((if L 13 then devAt T8 g D2 else devAt T8 g Dx) * (pts w0.heap.size 84 [.pointer (some ⟨g, 0, none⟩), .int .i64 (p : Int)] * R2) * Rq) := hm
                        rw [hL] at hm
                        have hm : Mem wb w (devAt T8 g Dx * (pts w0.heap.size 84 [.pointer (some ⟨g, 0, none⟩), .int .i64 (p : Int)] * R2) * Rq) := hm
                        have hm' := hm
                        rw [hR3] at hm'
                        obtain ⟨a2, c2, y, m1⟩ := Mem.rowB.1 (show Mem wb w (_ * (_ * R3)) from hm').p1
                        have e37 : a.eval (.tmp 37) = .slice a2 bs.length c2 := y
                        have e25 : a.eval (.tmp 25) = (.agg #[.pointer (some ⟨g, 0, none⟩), .int .i64 (p : Int)] : Value) := (hf 25 (by decide +kernel)).new 0 (by kernel_rfl) (by kernel_rfl)
                        have e30 : a.eval (.tmp 30) = (.int .i64 ((ho : Int) + (k : Int)) : Value) := (hf 30 (by decide +kernel)).new 5 (by kernel_rfl) (by kernel_rfl)
                        simp only [Act.eval, Array.getD_eq_getD_getElem?] at e25 e30 e37
                        unfold Oper.wp
                        rw [show (execOp a.eval _).run Tryz.prog w = .ok (.enter 59 #[(.agg #[.pointer (some ⟨g, 0, none⟩), .int .i64 (p : Int)]), (.int .i64 ((ho : Int) + (k : Int))), .slice a2 bs.length c2]) w from by simp [execOp, resolve, invoke, go_sem, e25, e30, e37]]
                        refine (HW.out w (pts w0.heap.size 84 [.pointer (some ⟨g, 0, none⟩), .int .i64 (p : Int)] * R2 * Rq) a2 c2 (hm.eq (by ac_rfl)) m1.row_sl).mono ?_
                        intro e w' hs'
                        obtain ⟨rfl, hm2⟩ := hs'.unit rfl
                        refine hK _ _ rfl ?_
                        show Mem wb w' ((if doneSet L 13 13 then devAt T8 g D2 else devAt T8 g Dx) * (pts w0.heap.size 84 [.pointer (some ⟨g, 0, none⟩), .int .i64 (p : Int)] * R2) * (emp * Rq))
                        rw [show doneSet L 13 13 = true from rfl, emp_sep]
                        exact hm2.eq (by show _ = devAt T8 g D2 * (pts w0.heap.size 84 [.pointer (some ⟨g, 0, none⟩), .int .i64 (p : Int)] * R2) * Rq; ac_rfl)
                    · intro u w9 hu hm9
                      have HM9 := hid (hm9.left : Mem wb w9 (devAt T8 g D2 * (pts w0.heap.size 84 [.pointer (some ⟨g, 0, none⟩), .int .i64 (p : Int)] * R2)))
                      simp only [putAll]
                      clear hm9 hu HW HM WO WS
                      go_simp
                      go_wp2_with fail
                      go_roundw
                      case rel => exact ⟨k + 1, D2, by omega, by go_num, by have := HPD.out; omega, HBE.out, HM9.out⟩
                      case measure => simp [intOf] <;> omega
              · obtain rfl : k = 2 := by omega
                rw [show ((2 : Nat) : Int) = 2 from rfl]
                have HIO3 : Hid (ioAgain p D0 = ((ioRedo p (l.drop (j + 1))).and rest) D1) := HIO1
                clear HIO1
                go_wp2_with fail
                go_roundw
                case rel => exact ⟨j + 1, D1, by omega, by go_num, by omega, HIO3.out, HM.out⟩
                case measure => simp [intOf] <;> omega
          · obtain rfl : j = l.length := by omega
            have HB3 : Hid (ioAgain p D0 = rest () Dj) := by
              show _ = _
              rw [HIO.out, List.drop_of_length_le (Nat.le_refl _)]
              rfl
            rw [HRE.out] at HB3
            obtain ⟨q0, q1⟩ := HBX.out _ _ HM.out.right
            have HFL := hid (dflush_any wb wr _ g Dj HM.out (by omega) (p : Int))
            obtain ⟨rf, HRF⟩ : ∃ r, Hid (ioFlush Dj = r) := ⟨_, hid rfl⟩
            have HG : Hid (rf.2.pend.length ≤ Dj.pend.length) := by rw [← HRF.out]; exact hid (Io.Grows.flush Dj)
            rw [HRF.out] at HFL
            clear HIO HRE HM
            rcases rf with ⟨e2 | u2, D2⟩
            · have HBE : Hid (ioAgain p D0 = (.error e2, D2)) := by
                show _ = _
                rw [HB3.out]
                exact Io.and_error HRF.out
              clear HB3 HRF
              go_wp2_with fail
              refine HFL.out.mono ?_
              intro e w4 hs'
              obtain ⟨rfl, hc, hm2⟩ := hs'.error rfl
              dsimp only
              exact ⟨rfl, FIN.out _ _ _ HBE.out hc hm2.p1.right⟩
            · have HB4 : Hid (ioAgain p D0 = ((ioFalls m).and fun _ => Io.ret true) D2) := by
                show _ = _
                rw [HB3.out]
                exact Io.and_ok HRF.out
              have HP2 : Hid (D2.pend.length ≤ 900000000) := by show _ ≤ _; have h2 : D2.pend.length ≤ Dj.pend.length := HG.out; omega
              clear HB3 HRF HG
              go_wp2_with fail
              refine HFL.out.mono ?_
              intro e w4 hs'
              obtain ⟨rfl, hm2⟩ := hs'.unit rfl
              dsimp only
              obtain ⟨q0, q1⟩ := HBX.out _ _ hm2.right
              rw [HR2d.out] at hm2
              have hm5 := hm2.eq (by ac_rfl : _ = devAt T8 g D2 * (row 5 1 am 512 cm (byts m) * (pts w0.heap.size 84 [.pointer (some ⟨g, 0, none⟩), .int .i64 (p : Int)] * (row 3 1 al l.length cl (nums l) * R))))
              have HFA := hid (falls_any wb w4 _ g D2 am cm m HML.out hm5 HP2.out (p : Int))
              obtain ⟨ra, HRA⟩ : ∃ r, Hid (ioFalls m D2 = r) := ⟨_, hid rfl⟩
              rw [HRA.out] at HFA
              clear hm2 hm5 hs' HFL
              rcases ra with ⟨e3 | u3, D3⟩
              · have HBE : Hid (ioAgain p D0 = (.error e3, D3)) := by
                  show _ = _
                  rw [HB4.out]
                  exact Io.and_error HRA.out
                clear HB4 HRA
                go_wp2_with fail
                refine HFA.out.mono ?_
                intro e w5 hs'
                obtain ⟨rfl, hc, hm2⟩ := hs'.error rfl
                dsimp only
                exact ⟨rfl, IoSays.mkError HBE.out hc (hm2.eq (by ac_rfl) : Mem wb w5 (row 5 1 am 512 cm (byts (m.set 511 0)) * (pts w0.heap.size 84 [.pointer (some ⟨g, 0, none⟩), .int .i64 (p : Int)] * (row 3 1 al l.length cl (nums l) * (devAt T8 g D3 * R))))).right.right.right⟩
              · have HBE : Hid (ioAgain p D0 = (.ok true, D3)) := by
                  show _ = _
                  rw [HB4.out]
                  exact Io.and_ok HRA.out
                clear HB4 HRA
                go_wp2_with fail
                refine HFA.out.mono ?_
                intro e w5 hs'
                obtain ⟨rfl, hm2⟩ := hs'.unit rfl
                dsimp only
                have HM6 := (hm2.eq (by ac_rfl) : Mem wb w5 (row 5 1 am 512 cm (byts (m.set 511 0)) * (pts w0.heap.size 84 [.pointer (some ⟨g, 0, none⟩), .int .i64 (p : Int)] * (row 3 1 al l.length cl (nums l) * (devAt T8 g D3 * R))))).right.right.right
                have HM6 := hid HM6
                clear hm2 hs'
                go_wp2_with fail
                go_ret
                exact IoSays.mkOk HBE.out (by unfold boolB; rw [Mem.pur]; exact ⟨rfl, HM6.out⟩)
end Go.Proofs.YtpaebopmppbjbaaGreatDoor

/- The walks of wal's caught, begun. -/
set_option linter.unusedVariables false
set_option linter.unusedSimpArgs false
namespace Go.Proofs.YtpaebopmppbjbaaGreatDoor
open Go Go.RowKit Go.Le

set_option maxRecDepth 20000 in
set_option maxHeartbeats 1000000 in
theorem caught1_panicking (p : Addr) (x c : Int) (w : World) (hc : w.cell? p = some (.int .i64 x)) (hz : w.frozen? p = false) :
    CallsD Tryz.prog 55 #[.pointer (some p)] (.panicking [errP 49 c]) w fun e u' w' =>
      e = .returned (.tuple #[]) ∧ u' = .panicking [{ v := .iface 49 (.int .i64 c), recovered := true }] ∧ w' = w.setCell p (.int .i64 c) := by
  have hta : ∀ (c : Int) (w : World), (Instr.typeAssert (.iface 49 (.int .i64 c)) 20 49 true).run Tryz.prog w = .ok (.tuple #[.int .i64 c, .bool true]) w := fun _ _ => by kernel_rfl
  unfold errP
  refine callsD_of_wpS Tryz.func55 rfl fun c₀ cs hu => ?_
  apply wpS_seq
  apply wpS_region
  simp [wpOpsS, go_sem, recoverD, hu, Tryz.ntmps55, Exit.thenS]
  refine wpS_of_wp ?_
  show Code.wp _ _ _ ⟨#[.pointer (some p), undef, undef, undef, .iface 49 (.int .i64 c), undef, undef, undef, undef, undef, undef], []⟩ w
  have HU := hid hu
  clear hu
  obtain ⟨bl, off, sp⟩ := p
  obtain rfl : sp = none := by simpa using World.cell?_spot hc
  refine wp_mono (Q := fun e a w' => e = .normal ∧ a.defers = [] ∧ w' = w.setCell ⟨bl, off, none⟩ (.int .i64 c)) ?_ ?_
  · go_wp2
  · rintro e a w' ⟨rfl, hd, rfl⟩
    have hu := HU.out
    cases c₀
    simp_all [bodyPostS, results, Tryz.results55]

theorem caught1_idle (p : Addr) (w : World) :
    CallsD Tryz.prog 55 #[.pointer (some p)] .returning w fun e u' w' => e = .returned (.tuple #[]) ∧ u' = .returning ∧ w' = w := by
  refine callsD_of_wpS Tryz.func55 rfl fun c₀ cs hu => ?_
  apply wpS_seq
  apply wpS_region
  simp [wpOpsS, go_sem, recoverD, hu, Tryz.ntmps55, Exit.thenS]
  refine wpS_of_wp ?_
  show Code.wp _ _ _ ⟨#[.pointer (some p), undef, undef, undef, .nilIface, undef, undef, undef, undef, undef, undef], []⟩ w
  have HU := hid hu
  clear hu
  refine wp_mono (Q := fun e a w' => e = .normal ∧ a.defers = [] ∧ w' = w) ?_ ?_
  · go_wp2
  · rintro e a w' ⟨rfl, hd, rfl⟩
    have hu := HU.out
    cases c₀
    simp_all [bodyPostS, results, Tryz.results55]

set_option maxRecDepth 20000 in
set_option maxHeartbeats 1000000 in
/-- a call whose disk may give up, caught -/
theorem caught_any (wb w : World) (A : HP) (B : Int → HP) (R : HP) (h : Mem wb w (A * R)) (k : FuncId) (caps : Array Value)
    (hk : ∀ w : World, (callFunc k caps).run Tryz.prog w = .ok (.enter k caps) w)
    (hdo : ∀ w1 R1, Mem wb w1 (A * R1) → Calls Tryz.prog k caps w1 fun e w2 => (e = .returned (.tuple #[]) ∧ Mem wb w2 (B 0 * R1)) ∨ ∃ c, e = .panicked [errP 49 c] ∧ c ≠ 0 ∧ Mem wb w2 (B c * R1)) :
    Calls Tryz.prog 34 #[.func (.func k) #[] caps] w fun e w' => ∃ c, e = .returned (.int .i64 c) ∧ Mem wb w' (B c * R) := by
  have hmf : ∀ (fn : Fn) (first cap : Array Value) (w : World), (Instr.makeFunc fn first cap).run Tryz.prog w = .ok (.func fn first cap) w := fun _ _ _ _ => rfl
  have hbx := h.alloc [.int .i64 0] 49
  have HD := hid (hdo _ (pts w.heap.size 49 [.int .i64 0] * R) (hbx.eq (by ac_rfl)))
  clear h hbx hdo
  go_enter_defers Tryz.func34, Tryz.ntmps34
  go_wp2_with fail
  refine HD.out.mono ?_
  rintro e w2 (⟨rfl, hm⟩ | ⟨c, rfl, hc, hm⟩)
  · dsimp only
    have hb := hm.p1
    have hc0 := hb.cell 0
    have hf0 := hb.frozen 0
    simp only [List.getElem?_cons_zero] at hc0
    have HM := hid (hb.setCell 0 (.int .i64 0))
    clear hm hb HD
    go_wp2_with fail
    refine leaves_cons (f := 55) (args := #[.pointer (some ⟨w.heap.size, 0, none⟩)]) (by simp) (by simp [go_sem]) ?_
    refine (caught1_idle ⟨w.heap.size, 0, none⟩ _).mono ?_
    rintro e u' w'' ⟨rfl, rfl, rfl⟩
    have hc1 := HM.out.cell 0
    simp only [List.set_cons_zero, List.getElem?_cons_zero] at hc1
    refine ⟨.int .i64 0, by simp [results, Tryz.results34, go_sem, hc1], 0, rfl, HM.out.right⟩
  · show bodyPostD _ _ _ (Exit.panic _) _ _
    have hb := hm.p1
    have hc0 := hb.cell 0
    have hf0 := hb.frozen 0
    simp only [List.getElem?_cons_zero] at hc0
    have HM := hid (hb.setCell 0 (.int .i64 c))
    clear hm hb HD
    refine leaves_cons (f := 55) (args := #[.pointer (some ⟨w.heap.size, 0, none⟩)]) (by simp) (by simp [go_sem]) ?_
    refine (caught1_panicking ⟨w.heap.size, 0, none⟩ 0 c _ hc0 hf0).mono ?_
    rintro e u' w'' ⟨rfl, rfl, rfl⟩
    have hc1 := HM.out.cell 0
    simp only [List.set_cons_zero, List.getElem?_cons_zero] at hc1
    have HF := HM.out.right
    simp [Leaves, settle, results, Tryz.results34, go_sem, hc1]
    exact HF
end Go.Proofs.YtpaebopmppbjbaaGreatDoor

/- The walks of wal's begun, Open. -/
set_option linter.unusedVariables false
set_option linter.unusedSimpArgs false
namespace Go.Proofs.YtpaebopmppbjbaaGreatDoor
open Go Go.RowKit Go.Le

theorem Sectors_dev (wb w : World) (R : HP) (g : Nat) (D : Dev) (h : Mem wb w (devAt T8 g D * R)) : Calls Tryz.prog 68 #[.pointer (some ⟨g, 0, none⟩)] w fun e w' => e = .returned (.int .i64 (D.n : Int)) ∧ w = w' := by
  obtain ⟨hok, ka, kc, h1⟩ := Mem.devAt.1 h
  exact Sectors_any wb w _ g D ka _ kc h1 hok
theorem Down_dev (wb w : World) (R : HP) (g : Nat) (D : Dev) (h : Mem wb w (devAt T8 g D * R)) :
    Calls Tryz.prog 24 #[.pointer (some ⟨g, 0, none⟩)] w fun e w' => e = .returned (.bool D.down) ∧ w = w' := by
  obtain ⟨hok, ka, kc, h1⟩ := Mem.devAt.1 h
  exact Down_any wb w _ g D ka _ kc h1
theorem Cache_dev (wb w : World) (R : HP) (g : Nat) (D : Dev) (h : Mem wb w (devAt T8 g D * R)) (hpl : D.pend.length ≤ 1000000000) :
    Calls Tryz.prog 39 #[.pointer (some ⟨g, 0, none⟩)] w fun e w' => ∃ a, e = .returned (.slice a D.pend.length D.pend.length) ∧ Mem wb w' (pends T8.u8 T8.pe a D.pend.length D.pend * (devAt T8 g D * R)) := by
  obtain ⟨hok, ka, kc, h1⟩ := Mem.devAt.1 h
  refine (Cache_any wb w _ g D ka _ kc h1 hok hpl).mono ?_
  rintro e w' ⟨a, rfl, hm⟩
  refine ⟨a, rfl, ?_⟩
  have := (Mem.devAt.2 ⟨hok, ka, kc, hm.q2⟩ : Mem wb w' (devAt T8 g D * _))
  exact this.eq (by ac_rfl)
/-- a disk with room for pages -/
def diskB (g : Nat) (p : Nat) (v : Value) : HP := pur (v = .agg #[.pointer (some ⟨g, 0, none⟩), .int .i64 (p : Int)])

set_option maxRecDepth 20000 in
set_option maxHeartbeats 4000000 in
theorem begun_any (wb w : World) (R : HP) (g : Nat) (D : Dev) (h : Mem wb w (devAt T8 g D * R)) (hpl : D.pend.length ≤ 900000000) :
    Calls Tryz.prog 42 #[.pointer (some ⟨g, 0, none⟩)] w (IoSays wb g R (ioBegun D) (diskB g)) := by
  have hbx := h.alloc [.pointer none, .int .i64 0] 84
  have hm := hbx.right
  have HDN := hid (Down_dev wb _ _ g D hm)
  have HSE := hid (Sectors_dev wb _ _ g D hm)
  obtain ⟨hok, -⟩ := Mem.devAt.1 hm
  have hn : D.n ≤ 4096 := by obtain ⟨n, a, b, c⟩ := hok.img; unfold Dev.n; omega
  have HRO : Hid (∀ w, Calls Tryz.prog 67 #[.int .i64 (D.n : Int)] w fun e w' => e = .returned (.int .i64 ((roomOf D.n : Nat) : Int)) ∧ w = w') := by
    show ∀ w, _
    intro w
    have := Room_any w (D.n : Int) (by omega) (by omega)
    rw [Int.toNat_natCast] at this
    exact this
  have HI : Hid (ioBegun D = if D.down then (.error 80, D) else if roomOf D.n = 0 then (.error 92, D) else if D.pend = [] then (.ok (roomOf D.n), D) else (ioFlush.and fun _ => Io.ret (roomOf D.n)) D) := hid rfl
  have HM := hid hm
  have HBX := hid hbx
  have HCA := hid (Cache_dev wb _ _ g D (hbx.eq (by ac_rfl) : Mem wb _ (devAt T8 g D * (pts w.heap.size 84 [.pointer none, .int .i64 0] * R))) (by omega))
  clear h hbx hm hok
  cases hd : D.down with
  | true =>
    rw [hd] at HDN HI
    have HE : Hid (ioBegun D = (.error 80, D)) := HI
    clear HI HSE HRO HCA HBX
    go_enter Tryz.func42, Tryz.ntmps42
    go_wp2_with (first | (go_at_call 24; refine HDN.out.mono ?_; rintro e w' ⟨rfl, rfl⟩; dsimp only) | (go_at_call 66; refine (must_no _ 80 (by omega)).mono ?_; rintro e w' ⟨rfl, rfl⟩; dsimp only))
    exact ⟨rfl, IoSays.mkError HE.out (by omega) HM.out⟩
  | false =>
    rw [hd] at HDN HI
    by_cases hr : roomOf D.n = 0
    · have HE : Hid (ioBegun D = (.error 92, D)) := by
        show _ = _
        rw [HI.out, if_neg (by simp), if_pos hr]
      rw [hr] at HRO
      clear HI HCA HBX hr
      generalize (D.n : Int) = z at *
      go_enter Tryz.func42, Tryz.ntmps42
      go_wp2_with (first | (go_at_call 24; refine HDN.out.mono ?_; rintro e w' ⟨rfl, rfl⟩; dsimp only) | (go_at_call 68; refine HSE.out.mono ?_; rintro e w' ⟨rfl, rfl⟩; dsimp only) | (go_at_call 67; refine (HRO.out _).mono ?_; rintro e w' ⟨rfl, rfl⟩; dsimp only; rw [show ((0 : Nat) : Int) = 0 from rfl]) | (go_at_call 66; refine (must_no _ 92 (by omega)).mono ?_; rintro e w' ⟨rfl, rfl⟩; dsimp only))
      exact ⟨rfl, IoSays.mkError HE.out (by omega) HM.out⟩
    · have hri : ((roomOf D.n : Int) == 0) = false := by rw [beq_eq_false_iff_ne]; omega
      have HI2 : Hid (ioBegun D = if D.pend = [] then (.ok (roomOf D.n), D) else (ioFlush.and fun _ => Io.ret (roomOf D.n)) D) := by
        show _ = _
        rw [HI.out, if_neg (by simp), if_neg hr]
      clear HI hr hn
      generalize roomOf D.n = p at *
      generalize (D.n : Int) = z at *
      by_cases hp : D.pend = []
      · have HE : Hid (ioBegun D = (.ok p, D)) := by
          show _ = _
          rw [HI2.out, if_pos hp]
        have hp0 : D.pend.length = 0 := by rw [hp]; rfl
        rw [hp0] at HCA
        clear HI2 hp hp0 hpl
        go_enter Tryz.func42, Tryz.ntmps42
        go_wp2_with (first | (go_at_call 24; refine HDN.out.mono ?_; rintro e w' ⟨rfl, rfl⟩; dsimp only) | (go_at_call 68; refine HSE.out.mono ?_; rintro e w' ⟨rfl, rfl⟩; dsimp only) | (go_at_call 67; refine (HRO.out _).mono ?_; rintro e w' ⟨rfl, rfl⟩; dsimp only) | (go_at_call 39; refine HCA.out.mono ?_; rintro e w2 ⟨ac, rfl, hm2⟩; dsimp only; have HM2 := hid hm2; have hb := hm2.p2; have q0 := hb.cell 0; have q1 := hb.cell 1; have f0 := hb.frozen 0; have f1 := hb.frozen 1; simp only [List.getElem?_cons_zero, List.getElem?_cons_succ] at q0 q1; clear hm2 hb))
        have hm4 := (((HM2.out.p2).setCell 0 (.pointer (some ⟨g, 0, none⟩))).setCell 1 (.int .i64 (p : Int)))
        simp only [List.set_cons_zero, List.set_cons_succ] at hm4
        have c0 := hm4.cell 0
        have c1 := hm4.cell 1
        simp only [List.getElem?_cons_zero, List.getElem?_cons_succ] at c0 c1
        refine bodyPost_ret (v := .agg #[.pointer (some ⟨g, 0, none⟩), .int .i64 (p : Int)]) (by simp [results, Tryz.results42, go_sem, c0, c1, q0, q1, f0, f1]) rfl (IoSays.mkOk HE.out ?_)
        unfold diskB
        rw [Mem.pur]
        exact ⟨rfl, hm4.right.right⟩
      · have hp0 : 0 < D.pend.length := by cases hx : D.pend with | nil => exact absurd hx hp | cons x r => simp
        obtain ⟨r2, HR2⟩ : ∃ r, Hid (ioFlush D = r) := ⟨_, hid rfl⟩
        have HFL : Hid (∀ w R', Mem wb w (devAt T8 g D * R') → Calls Tryz.prog 69 #[.pointer (some ⟨g, 0, none⟩)] w fun e w' => e = .returned (.int .i64 D.flush.2) ∧ Mem wb w' (devAt T8 g D.flush.1 * R')) := fun w R' h => Flush_any wb w R' g D h (by omega)
        have HI3 : Hid (ioBegun D = (ioFlush.and fun _ => Io.ret p) D) := by
          show _ = _
          rw [HI2.out, if_neg hp]
        have hp1 : (0 : Int) < (D.pend.length : Int) := by omega
        have hR2 := HR2.out
        unfold ioFlush at hR2
        obtain ⟨rf, HRF⟩ : ∃ r, Hid (D.flush = r) := ⟨_, hid rfl⟩
        rw [HRF.out] at hR2 HFL
        obtain ⟨Df, c⟩ := rf
        dsimp only at hR2 HFL
        clear HI2 hp
        generalize D.pend.length = nl at *
        by_cases hc : c = 0
        · subst hc
          rw [if_pos rfl] at hR2
          subst hR2
          have HE : Hid (ioBegun D = (.ok p, Df)) := by
            show _ = _
            rw [HI3.out]
            exact Io.and_ok HR2.out
          clear HI3 HR2 HRF hpl hp0
          go_enter Tryz.func42, Tryz.ntmps42
          go_wp2_with (first | (go_at_call 24; refine HDN.out.mono ?_; rintro e w' ⟨rfl, rfl⟩; dsimp only) | (go_at_call 68; refine HSE.out.mono ?_; rintro e w' ⟨rfl, rfl⟩; dsimp only) | (go_at_call 67; refine (HRO.out _).mono ?_; rintro e w' ⟨rfl, rfl⟩; dsimp only) | (go_at_call 39; refine HCA.out.mono ?_; rintro e w2 ⟨ac, rfl, hm2⟩; dsimp only; have HM2 := hid hm2; clear hm2) | (go_at_call 69; refine (HFL.out _ _ HM2.out.right).mono ?_; rintro e w3 ⟨rfl, hm3⟩; dsimp only; have HM3 := hid hm3; have hb := hm3.p1; have q0 := hb.cell 0; have q1 := hb.cell 1; have f0 := hb.frozen 0; have f1 := hb.frozen 1; simp only [List.getElem?_cons_zero, List.getElem?_cons_succ] at q0 q1; clear hm3 hb) | (go_at_call 66; refine (must_ok _).mono ?_; rintro e w' ⟨rfl, rfl⟩; dsimp only))
          have hm4 := (((HM3.out.p1).setCell 0 (.pointer (some ⟨g, 0, none⟩))).setCell 1 (.int .i64 (p : Int)))
          simp only [List.set_cons_zero, List.set_cons_succ] at hm4
          have c0 := hm4.cell 0
          have c1 := hm4.cell 1
          simp only [List.getElem?_cons_zero, List.getElem?_cons_succ] at c0 c1
          refine bodyPost_ret (v := .agg #[.pointer (some ⟨g, 0, none⟩), .int .i64 (p : Int)]) (by simp [results, Tryz.results42, go_sem, c0, c1, q0, q1, f0, f1]) rfl (IoSays.mkOk HE.out ?_)
          unfold diskB
          rw [Mem.pur]
          exact ⟨rfl, hm4.right⟩
        · rw [if_neg hc] at hR2
          subst hR2
          have HE : Hid (ioBegun D = (.error c, Df)) := by
            show _ = _
            rw [HI3.out]
            exact Io.and_error HR2.out
          have HC := hid hc
          clear HI3 HR2 HRF hpl hp0 hc
          go_enter Tryz.func42, Tryz.ntmps42
          go_wp2_with (first | (go_at_call 24; refine HDN.out.mono ?_; rintro e w' ⟨rfl, rfl⟩; dsimp only) | (go_at_call 68; refine HSE.out.mono ?_; rintro e w' ⟨rfl, rfl⟩; dsimp only) | (go_at_call 67; refine (HRO.out _).mono ?_; rintro e w' ⟨rfl, rfl⟩; dsimp only) | (go_at_call 39; refine HCA.out.mono ?_; rintro e w2 ⟨ac, rfl, hm2⟩; dsimp only; have HM2 := hid hm2; clear hm2) | (go_at_call 69; refine (HFL.out _ _ HM2.out.right).mono ?_; rintro e w3 ⟨rfl, hm3⟩; dsimp only; have HM3 := hid hm3; have hb := hm3.p1; have q0 := hb.cell 0; have q1 := hb.cell 1; have f0 := hb.frozen 0; have f1 := hb.frozen 1; simp only [List.getElem?_cons_zero, List.getElem?_cons_succ] at q0 q1; clear hm3 hb) | (go_at_call 66; refine (must_no _ _ HC.out).mono ?_; rintro e w' ⟨rfl, rfl⟩; dsimp only))
          exact ⟨rfl, IoSays.mkError HE.out HC.out HM3.out.p1.right⟩
end Go.Proofs.YtpaebopmppbjbaaGreatDoor
