/- The walks of wal's must, read, write, flush, slot, home, Room, Need, fault. -/
import Derived.Test.YtpaebopmppbjbaaWalP
import Derived.Test.YtpaebopmppbjbaaReg2
import Derived.Test.YtpaebopmppbjbaaSec8
set_option linter.unusedVariables false
set_option linter.unusedSimpArgs false
namespace Go.Le
open Go Go.RowKit
/-- the panic that gives a call up -/
def errP (t : TypeId) (c : Int) : PanicEntry := { v := .iface t (.int .i64 c), recovered := false }
end Go.Le
namespace Go.Proofs.Ytpaebopmppbjbaa
open Go Go.RowKit Go.Le

/-- a call of the disk has answered, or was given up -/
def IoSays {α : Type} (wb : World) (g : Nat) (R : HP) (res : Except Int α × Dev) (ret : α → Value → HP) (e : Ending) (w' : World) : Prop :=
  match res with
  | (.ok a, D') => ∃ v, e = .returned v ∧ Mem wb w' (ret a v * (devAt T8 g D' * R))
  | (.error c, D') => e = .panicked [errP 45 c] ∧ c ≠ 0 ∧ Mem wb w' (devAt T8 g D' * R)
/-- no answer but that it is done -/
def unitB (_ : Unit) (v : Value) : HP := pur (v = .tuple #[])
/-- bytes, new -/
def bytesB (b : List UInt8) (v : Value) : HP := rowB 5 b.length (byts b) v
theorem IoSays.ok {α : Type} {wb : World} {g : Nat} {R : HP} {res : Except Int α × Dev} {ret : α → Value → HP} {e : Ending} {w' : World} {a : α} {D' : Dev} (h : IoSays wb g R res ret e w') (hr : res = (.ok a, D')) : ∃ v, e = .returned v ∧ Mem wb w' (ret a v * (devAt T8 g D' * R)) := by subst hr; exact h
theorem IoSays.error {α : Type} {wb : World} {g : Nat} {R : HP} {res : Except Int α × Dev} {ret : α → Value → HP} {e : Ending} {w' : World} {c : Int} {D' : Dev} (h : IoSays wb g R res ret e w') (hr : res = (.error c, D')) : e = .panicked [errP 45 c] ∧ c ≠ 0 ∧ Mem wb w' (devAt T8 g D' * R) := by subst hr; exact h
theorem IoSays.unit {wb : World} {g : Nat} {R : HP} {res : Except Int Unit × Dev} {e : Ending} {w' : World} {D' : Dev} (h : IoSays wb g R res unitB e w') (hr : res = (.ok (), D')) : e = .returned (.tuple #[]) ∧ Mem wb w' (devAt T8 g D' * R) := by
  obtain ⟨v, he, hm⟩ := h.ok hr
  unfold unitB at hm
  rw [Mem.pur] at hm
  exact ⟨by rw [he, hm.1], hm.2⟩
theorem IoSays.mkOk {α : Type} {wb : World} {g : Nat} {R : HP} {res : Except Int α × Dev} {ret : α → Value → HP} {w' : World} {a : α} {D' : Dev} {v : Value} (hr : res = (.ok a, D')) (h : Mem wb w' (ret a v * (devAt T8 g D' * R))) : IoSays wb g R res ret (.returned v) w' := by subst hr; exact ⟨v, rfl, h⟩
theorem IoSays.mkUnit {wb : World} {g : Nat} {R : HP} {res : Except Int Unit × Dev} {w' : World} {D' : Dev} (hr : res = (.ok (), D')) (h : Mem wb w' (devAt T8 g D' * R)) : IoSays wb g R res unitB (.returned (.tuple #[])) w' :=
  IoSays.mkOk hr (by unfold unitB; rw [Mem.pur]; exact ⟨rfl, h⟩)
theorem IoSays.mkError {α : Type} {wb : World} {g : Nat} {R : HP} {res : Except Int α × Dev} {ret : α → Value → HP} {w' : World} {c : Int} {D' : Dev} (hr : res = (.error c, D')) (hc : c ≠ 0) (h : Mem wb w' (devAt T8 g D' * R)) : IoSays wb g R res ret (.panicked [errP 45 c]) w' := by subst hr; exact ⟨rfl, hc, h⟩

theorem ret_int {k : IntKind} {a b : Int} (h : a = b) : Ending.returned (.int k a) = .returned (.int k b) := by rw [h]
theorem must_ok (w : World) : Calls Try.prog 39 #[.int .i64 0] w fun e w' => e = .returned (.tuple #[]) ∧ w = w' := by
  go_enter Try.func39, Try.ntmps39
  go_wp2
  go_end0
  exact ⟨rfl, rfl⟩
theorem must_no (w : World) (c : Int) (hc : c ≠ 0) : Calls Try.prog 39 #[.int .i64 c] w fun e w' => e = .panicked [errP 45 c] ∧ w = w' := by
  have h0 : (c != 0) = true := by simpa using hc
  clear hc
  go_enter Try.func39, Try.ntmps39
  go_wp2
  exact ⟨rfl, rfl, rfl⟩

set_option maxHeartbeats 1000000 in
theorem dread_any (wb w : World) (R : HP) (g : Nat) (D : Dev) (h : Mem wb w (devAt T8 g D * R)) (hpl : D.pend.length ≤ 1000000000) (i : Nat) (hi : i ≤ 1000000000) (p : Int) :
    Calls Try.prog 25 #[.agg #[.pointer (some ⟨g, 0, none⟩), .int .i64 p], .int .i64 (i : Int)] w (IoSays wb g R (ioRead i D) bytesB) := by
  have hm := h.alloc' (.cells #[.pointer (some ⟨g, 0, none⟩), .int .i64 p] 54)
  obtain ⟨hok, ka, kc, h1⟩ := Mem.devAt.1 hm
  have HOK := hid hok
  by_cases ha : D.asked i = 0
  · obtain ⟨hd, h0, hn⟩ := asked_zero ha
    have HRD := hid (Read_any wb _ _ g D ka _ kc h1 hok hpl i (by omega) hd)
    have HR : Hid (ioRead i D = (.ok (D.last i), D)) := by unfold ioRead; rw [if_pos ha]; exact hid rfl
    have HL := hid (Dev.last_length hok (i := i) (by omega))
    clear h hm h1 hok ha hd h0 hn
    go_enter Try.func25, Try.ntmps25
    go_wp2_with fail
    refine HRD.out.mono ?_
    rintro e w2 ⟨a, c, rfl, hm2⟩
    dsimp only
    have HM2 := hid ((Mem.devAt.2 ⟨HOK.out, ka, kc, hm2.q2⟩ : Mem wb w2 (devAt T8 g D * _)).eq (by ac_rfl) : Mem wb w2 (row 5 1 a 512 c (byts (D.last i)) * (devAt T8 g D * R)))
    clear hm2 HRD
    go_wp2_with (go_at_call 39; refine (must_ok _).mono ?_; rintro e w' ⟨rfl, rfl⟩; dsimp only)
    go_ret
    refine IoSays.mkOk HR.out ?_
    unfold bytesB
    rw [HL.out]
    exact Mem.rowB.2 ⟨a, c, rfl, HM2.out⟩
  · have HRD := hid (Read_no wb _ _ g D ka _ kc h1 hok i (by omega) (by omega) ha)
    have HR : Hid (ioRead i D = (.error (D.asked i), D)) := by unfold ioRead; rw [if_neg ha]; exact hid rfl
    have HA := hid ha
    have HM := hid hm
    clear h hm h1 hok ha
    generalize D.asked i = c at *
    go_enter Try.func25, Try.ntmps25
    go_wp2_with fail
    refine HRD.out.mono ?_
    rintro e w2 ⟨rfl, rfl⟩
    dsimp only
    go_wp2_with (go_at_call 39; refine (must_no _ _ HA.out).mono ?_; rintro e w' ⟨rfl, rfl⟩; dsimp only)
    exact ⟨rfl, IoSays.mkError HR.out HA.out HM.out⟩

set_option maxHeartbeats 1000000 in
theorem dwrite_any (wb w : World) (R : HP) (g : Nat) (D : Dev) (h : Mem wb w (devAt T8 g D * R)) (hpl : D.pend.length ≤ 1000000000) (i : Nat) (hi : i ≤ 1000000000) (p : Int) (a : Option Addr) (n c : Nat) (b : List UInt8) (hs : Sl w a n c (byts b)) :
    Calls Try.prog 43 #[.agg #[.pointer (some ⟨g, 0, none⟩), .int .i64 p], .int .i64 (i : Int), .slice a n c] w (IoSays wb g R (ioWrite i b D) unitB) := by
  have hm := h.alloc' (.cells #[.pointer (some ⟨g, 0, none⟩), .int .i64 p] 54)
  have HWR := hid (Write_any wb _ _ g D hm hpl i (by omega) (by omega) a n c b (hs.ext ((Fr.refl _ _ _).alloc (Nat.le_refl _) _)))
  obtain ⟨r, HR⟩ : ∃ r, Hid (D.write i b = r) := ⟨_, hid rfl⟩
  rw [HR.out] at HWR
  have HI : Hid (ioWrite i b D = ((if r.2 = 0 then .ok () else .error r.2), r.1)) := by unfold ioWrite; rw [HR.out]; exact hid rfl
  clear h hm hs HR
  obtain ⟨D', c⟩ := r
  dsimp only at HWR HI
  by_cases h0 : c = 0
  · subst h0
    rw [if_pos rfl] at HI
    go_enter Try.func43, Try.ntmps43
    go_wp2_with fail
    refine HWR.out.mono ?_
    rintro e w2 ⟨rfl, hm2⟩
    dsimp only
    have HM2 := hid hm2
    clear hm2
    go_wp2_with (go_at_call 39; refine (must_ok _).mono ?_; rintro e w' ⟨rfl, rfl⟩; dsimp only)
    go_end0
    exact IoSays.mkUnit HI.out HM2.out
  · rw [if_neg h0] at HI
    have HC := hid h0
    clear h0
    go_enter Try.func43, Try.ntmps43
    go_wp2_with fail
    refine HWR.out.mono ?_
    rintro e w2 ⟨rfl, hm2⟩
    dsimp only
    have HM2 := hid hm2
    clear hm2
    go_wp2_with (go_at_call 39; refine (must_no _ _ HC.out).mono ?_; rintro e w' ⟨rfl, rfl⟩; dsimp only)
    exact ⟨rfl, IoSays.mkError HI.out HC.out HM2.out⟩

set_option maxHeartbeats 1000000 in
theorem dflush_any (wb w : World) (R : HP) (g : Nat) (D : Dev) (h : Mem wb w (devAt T8 g D * R)) (hpl : D.pend.length ≤ 1000000000) (p : Int) :
    Calls Try.prog 46 #[.agg #[.pointer (some ⟨g, 0, none⟩), .int .i64 p]] w (IoSays wb g R (ioFlush D) unitB) := by
  have hm := h.alloc' (.cells #[.pointer (some ⟨g, 0, none⟩), .int .i64 p] 54)
  have HWR := hid (Flush_any wb _ _ g D hm hpl)
  obtain ⟨r, HR⟩ : ∃ r, Hid (D.flush = r) := ⟨_, hid rfl⟩
  rw [HR.out] at HWR
  have HI : Hid (ioFlush D = ((if r.2 = 0 then .ok () else .error r.2), r.1)) := by unfold ioFlush; rw [HR.out]; exact hid rfl
  clear h hm HR
  obtain ⟨D', c⟩ := r
  dsimp only at HWR HI
  by_cases h0 : c = 0
  · subst h0
    rw [if_pos rfl] at HI
    go_enter Try.func46, Try.ntmps46
    go_wp2_with fail
    refine HWR.out.mono ?_
    rintro e w2 ⟨rfl, hm2⟩
    dsimp only
    have HM2 := hid hm2
    clear hm2
    go_wp2_with (go_at_call 39; refine (must_ok _).mono ?_; rintro e w' ⟨rfl, rfl⟩; dsimp only)
    go_end0
    exact IoSays.mkUnit HI.out HM2.out
  · rw [if_neg h0] at HI
    have HC := hid h0
    clear h0
    go_enter Try.func46, Try.ntmps46
    go_wp2_with fail
    refine HWR.out.mono ?_
    rintro e w2 ⟨rfl, hm2⟩
    dsimp only
    have HM2 := hid hm2
    clear hm2
    go_wp2_with (go_at_call 39; refine (must_no _ _ HC.out).mono ?_; rintro e w' ⟨rfl, rfl⟩; dsimp only)
    exact ⟨rfl, IoSays.mkError HI.out HC.out HM2.out⟩

theorem slot_any (w : World) (d : Value) (n : Nat) (hn : n ≤ 1000000) (p : Value) : Calls Try.prog 45 #[.agg #[d, p], .int .i64 (n : Int)] w fun e w' => e = .returned (.int .i64 (slotOf n : Nat)) ∧ Fr w.heap.size [] w w' := by
  go_enter Try.func45, Try.ntmps45
  go_wp2
  go_ret
  exact ⟨by simp [slotOf], (by repeat (first | exact Fr.refl _ _ _ | assumption | apply Fr.drew | (refine Fr.drewN ?_ _) | (refine Fr.alloc ?_ (by first | omega | (simp; done) | (simp; omega)) _) | (refine Fr.setCell ?_ (by first | (left; simp; done) | (right; simp; done) | (right; simp; omega)) _)))⟩
theorem home_any (w : World) (d : Value) (n p : Nat) (hn : n ≤ 1000000) (hp : p ≤ 1000000) : Calls Try.prog 44 #[.agg #[d, .int .i64 (p : Int)], .int .i64 (n : Int)] w fun e w' => e = .returned (.int .i64 (homeOf p n : Nat)) ∧ Fr w.heap.size [] w w' := by
  go_enter Try.func44, Try.ntmps44
  go_wp2
  go_ret
  exact ⟨by simp [homeOf], (by repeat (first | exact Fr.refl _ _ _ | assumption | apply Fr.drew | (refine Fr.drewN ?_ _) | (refine Fr.alloc ?_ (by first | omega | (simp; done) | (simp; omega)) _) | (refine Fr.setCell ?_ (by first | (left; simp; done) | (right; simp; done) | (right; simp; omega)) _)))⟩
theorem Room_any (w : World) (s : Int) (h1 : -9223372036854775808 ≤ s) (h2 : s ≤ 9223372036854775807) : Calls Try.prog 9 #[.int .i64 s] w fun e w' => e = .returned (.int .i64 (roomOf s.toNat : Nat)) ∧ w = w' := by
  by_cases h5 : s < 5
  · go_enter Try.func9, Try.ntmps9
    go_wp2
    go_ret
    exact ⟨ret_int (by unfold roomOf; rw [if_pos (by omega)]; rfl), rfl⟩
  · by_cases hq : (s - 1) / 4 ≤ 250
    · go_enter Try.func9, Try.ntmps9
      go_wp2
      all_goals
        go_ret
        exact ⟨ret_int (by unfold roomOf; rw [if_neg (by omega)]; omega), rfl⟩
    · go_enter Try.func9, Try.ntmps9
      go_wp2
      all_goals
        go_ret
        exact ⟨ret_int (by unfold roomOf; rw [if_neg (by omega)]; omega), rfl⟩
def needOf (p : Int) : Int := if p < 1 ∨ 250 < p then 0 else 4 * p + 1
theorem Need_any (w : World) (p : Int) : Calls Try.prog 11 #[.int .i64 p] w fun e w' => e = .returned (.int .i64 (needOf p)) ∧ w = w' := by
  by_cases h1 : p < 1
  · go_enter Try.func11, Try.ntmps11
    go_wp2
    go_ret
    exact ⟨ret_int (by unfold needOf; rw [if_pos (by omega)]), rfl⟩
  · by_cases h2 : 250 < p
    · go_enter Try.func11, Try.ntmps11
      go_wp2
      go_ret
      exact ⟨ret_int (by unfold needOf; rw [if_pos (by omega)]), rfl⟩
    · go_enter Try.func11, Try.ntmps11
      go_wp2
      go_ret
      exact ⟨ret_int (by unfold needOf; rw [if_neg (by omega)]), rfl⟩
end Go.Proofs.Ytpaebopmppbjbaa
