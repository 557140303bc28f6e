/- The walk of the laws' call: one step on a device. -/
import Derived.Test.YtpdppacafkdgdaaKeep9
set_option linter.unusedVariables false
set_option linter.unusedSimpArgs false
namespace Go.Le
open Go Go.RowKit
/-- one step on a device: the device, its error, what it tells -/
def callM (D : Dev) (S : StepV) : Dev × Int × List UInt8 :=
  if S.kind = 1 then (D, (D.read (S.i % 5)).2, (D.read (S.i % 5)).1)
  else if S.kind = 4 then (D.flush.1, D.flush.2, [])
  else if S.kind = 7 then ((D.crash S.l).1, (D.crash S.l).2, [])
  else if S.kind = 8 then (D.up, 0, [])
  else if S.kind = 9 then (D, 0, D.img)
  else if S.kind = 5 ∨ S.kind = 6 then ((D.arm (S.x.toNat % 8 : Nat) S.l).1, (D.arm (S.x.toNat % 8 : Nat) S.l).2, [])
  else ((D.write (S.i % 5) (secFill S.x S.b)).1, (D.write (S.i % 5) (secFill S.x S.b)).2, [])
end Go.Le
namespace Go.Proofs.Ytpdppacafkdgdaa
open Go Go.RowKit Go.Le

def CallSays (wb w : World) (R : HP) (g : Nat) (D : Dev) (S : StepV) : Prop :=
  Calls Try.prog 24 #[.pointer (some ⟨g, 0, none⟩), .agg S.cells.toArray] w fun e w' => e = .returned (.tuple #[.int .i64 (callM D S).2.1, .string ⟨(callM D S).2.2.toArray⟩]) ∧ Mem wb w' (devAt T8 g (callM D S).1 * R)

set_option maxRecDepth 20000 in
set_option maxHeartbeats 4000000 in
theorem call_read (wb w : World) (R : HP) (g : Nat) (D : Dev) (h : Mem wb w (devAt T8 g D * R)) (hN : D.pend.length ≤ 1000) (which i : Int) (i1 : -9223372036854775808 ≤ i) (i2 : i ≤ 9223372036854775807)
    (x : UInt8) (ba : Option Addr) (bn bc : Nat) (b : List UInt8) (la : Option Addr) (lc : Nat) (l : Loss) : CallSays wb w R g D ⟨1, which, i, x, ba, bn, bc, b, la, lc, l⟩ := by
  have hbox := h.alloc [.int .i64 1, .int .i64 which, .int .i64 i, .int .u8 (x.toNat : Int), .slice ba bn bc, .slice la l.keep.length lc, .int .i64 l.torn, .int .i64 l.off] 50
  have P := hid (fun w => pick_any w i 5 (by omega) (by omega) i1 i2)
  have bx0 := hbox.cell 0
  have bx2 := hbox.cell 2
  simp only [List.getElem?_cons_zero, List.getElem?_cons_succ] at bx0 bx2
  obtain ⟨hok, ka, kc, h1⟩ := Mem.devAt.1 hbox.p1
  have hm : callM D ⟨1, which, i, x, ba, bn, bc, b, la, lc, l⟩ = (D, (D.read (i % 5)).2, (D.read (i % 5)).1) := rfl
  unfold CallSays
  rw [hm]
  unfold StepV.cells
  obtain ⟨j, hj⟩ : ∃ j : Nat, i % 5 = (j : Int) := ⟨(i % 5).toNat, by omega⟩
  rw [hj] at P ⊢
  by_cases ha : D.asked (j : Int) = 0
  · obtain ⟨ad, ai0, ain⟩ := asked_zero ha
    have hr : D.read (j : Int) = (D.last j, 0) := by unfold Dev.read; rw [if_neg (by rw [ha]; simp)]; rfl
    rw [hr]
    have HRD := hid (Read_any wb _ _ g D ka _ kc h1 hok (by omega) j (by omega) ad)
    have HOK := hid hok
    clear h hbox h1 hm ha hr hok
    generalize D.last j = q at *
    go_enter Try.func24, Try.ntmps24
    go_wp2_with fail
    refine (P.out _).mono ?_
    rintro e w' ⟨rfl, rfl⟩
    dsimp only
    go_wp2_with fail
    refine HRD.out.mono ?_
    rintro e w2 ⟨a2, c2, rfl, hm2⟩
    have hst := fun n => conv_str (hm2.row_sl.drewN n)
    have HF := hid ((Mem.devAt.2 ⟨HOK.out, ka, kc, hm2.right⟩ : Mem wb w2 (devAt T8 g D * _)).p1.right)
    clear hm2
    dsimp only
    go_wp2_with fail
    go_quiet (fail)
    have HQ := hid (HF.out.drewN nq)
    go_wp2_with fail
    go_ret2
    exact ⟨rfl, HQ.out⟩
  · have hr : D.read (j : Int) = ([], D.asked (j : Int)) := by unfold Dev.read; rw [if_pos ha]
    rw [hr]
    have HRD := hid (Read_no wb _ _ g D ka _ kc h1 hok (j : Int) (by omega) (by omega) ha)
    have HF := hid hbox.p1
    have hst := fun n => conv_str (l := []) (Sl.nil' ((w.alloc (.cells #[.int .i64 1, .int .i64 which, .int .i64 i, .int .u8 (x.toNat : Int), .slice ba bn bc, .slice la l.keep.length lc, .int .i64 l.torn, .int .i64 l.off] 50)).drewN n))
    clear h hbox h1 hm ha hr hok
    generalize D.asked (j : Int) = q at *
    go_enter Try.func24, Try.ntmps24
    go_wp2_with fail
    refine (P.out _).mono ?_
    rintro e w' ⟨rfl, rfl⟩
    dsimp only
    go_wp2_with fail
    refine HRD.out.mono ?_
    rintro e w' ⟨rfl, rfl⟩
    dsimp only
    go_wp2_with fail
    go_quiet (fail)
    have HQ := hid (HF.out.p1.right.drewN nq)
    go_wp2_with fail
    go_ret2
    exact ⟨rfl, HQ.out⟩

set_option maxRecDepth 20000 in
set_option maxHeartbeats 4000000 in
theorem call_flush (wb w : World) (R : HP) (g : Nat) (D : Dev) (h : Mem wb w (devAt T8 g D * R)) (hN : D.pend.length ≤ 1000) (which i : Int) (i1 : -9223372036854775808 ≤ i) (i2 : i ≤ 9223372036854775807)
    (x : UInt8) (ba : Option Addr) (bn bc : Nat) (b : List UInt8) (la : Option Addr) (lc : Nat) (l : Loss) : CallSays wb w R g D ⟨4, which, i, x, ba, bn, bc, b, la, lc, l⟩ := by
  have hbox := h.alloc [.int .i64 4, .int .i64 which, .int .i64 i, .int .u8 (x.toNat : Int), .slice ba bn bc, .slice la l.keep.length lc, .int .i64 l.torn, .int .i64 l.off] 50
  have P := hid (fun w => pick_any w i 5 (by omega) (by omega) i1 i2)
  have bx0 := hbox.cell 0
  have bx2 := hbox.cell 2
  simp only [List.getElem?_cons_zero, List.getElem?_cons_succ] at bx0 bx2
  have HFL := hid (Flush_any wb _ _ g D hbox.p1 (by omega))
  have hm : callM D ⟨4, which, i, x, ba, bn, bc, b, la, lc, l⟩ = (D.flush.1, D.flush.2, []) := rfl
  unfold CallSays
  rw [hm]
  unfold StepV.cells
  clear h hbox hm
  go_enter Try.func24, Try.ntmps24
  go_wp2_with fail
  refine (P.out _).mono ?_
  rintro e w' ⟨rfl, rfl⟩
  dsimp only
  go_wp2_with fail
  refine HFL.out.mono ?_
  rintro e w2 ⟨rfl, hm2⟩
  dsimp only
  have HF := hid hm2.p1.right
  go_wp2_with fail
  go_ret2
  exact ⟨rfl, HF.out⟩

set_option maxRecDepth 20000 in
set_option maxHeartbeats 4000000 in
theorem call_up (wb w : World) (R : HP) (g : Nat) (D : Dev) (h : Mem wb w (devAt T8 g D * R)) (which i : Int) (i1 : -9223372036854775808 ≤ i) (i2 : i ≤ 9223372036854775807)
    (x : UInt8) (ba : Option Addr) (bn bc : Nat) (b : List UInt8) (la : Option Addr) (lc : Nat) (l : Loss) : CallSays wb w R g D ⟨8, which, i, x, ba, bn, bc, b, la, lc, l⟩ := by
  have hbox := h.alloc [.int .i64 8, .int .i64 which, .int .i64 i, .int .u8 (x.toNat : Int), .slice ba bn bc, .slice la l.keep.length lc, .int .i64 l.torn, .int .i64 l.off] 50
  have P := hid (fun w => pick_any w i 5 (by omega) (by omega) i1 i2)
  have bx0 := hbox.cell 0
  have bx2 := hbox.cell 2
  simp only [List.getElem?_cons_zero, List.getElem?_cons_succ] at bx0 bx2
  obtain ⟨hok, ka, kc, h1⟩ := Mem.devAt.1 hbox.p1
  have HUP := hid (Up_any wb _ _ g D ka _ kc h1)
  have HOK := hid (Dev.up_ok hok)
  have hm : callM D ⟨8, which, i, x, ba, bn, bc, b, la, lc, l⟩ = (D.up, 0, []) := rfl
  unfold CallSays
  rw [hm]
  unfold StepV.cells
  clear h hbox hm h1 hok
  go_enter Try.func24, Try.ntmps24
  go_wp2_with fail
  refine (P.out _).mono ?_
  rintro e w' ⟨rfl, rfl⟩
  dsimp only
  go_wp2_with fail
  refine HUP.out.mono ?_
  rintro e w2 ⟨rfl, hm2⟩
  dsimp only
  have HF := hid ((Mem.devAt.2 ⟨HOK.out, ka, kc, hm2⟩ : Mem wb w2 (devAt T8 g D.up * _)).p1.right)
  go_wp2_with fail
  go_ret2
  exact ⟨rfl, HF.out⟩

set_option maxRecDepth 20000 in
set_option maxHeartbeats 4000000 in
theorem call_tell (wb w : World) (R : HP) (g : Nat) (D : Dev) (h : Mem wb w (devAt T8 g D * R)) (which i : Int) (i1 : -9223372036854775808 ≤ i) (i2 : i ≤ 9223372036854775807)
    (x : UInt8) (ba : Option Addr) (bn bc : Nat) (b : List UInt8) (la : Option Addr) (lc : Nat) (l : Loss) : CallSays wb w R g D ⟨9, which, i, x, ba, bn, bc, b, la, lc, l⟩ := by
  have hbox := h.alloc [.int .i64 9, .int .i64 which, .int .i64 i, .int .u8 (x.toNat : Int), .slice ba bn bc, .slice la l.keep.length lc, .int .i64 l.torn, .int .i64 l.off] 50
  have P := hid (fun w => pick_any w i 5 (by omega) (by omega) i1 i2)
  have bx0 := hbox.cell 0
  have bx2 := hbox.cell 2
  simp only [List.getElem?_cons_zero, List.getElem?_cons_succ] at bx0 bx2
  obtain ⟨hok, ka, kc, h1⟩ := Mem.devAt.1 hbox.p1
  have HIM := hid (Image_any wb _ _ g D ka _ kc h1.drew hok)
  have HOK := hid hok
  have hm : callM D ⟨9, which, i, x, ba, bn, bc, b, la, lc, l⟩ = (D, 0, D.img) := rfl
  unfold CallSays
  rw [hm]
  unfold StepV.cells
  clear h hbox hm h1 hok
  go_enter Try.func24, Try.ntmps24
  go_wp2_with fail
  refine (P.out _).mono ?_
  rintro e w' ⟨rfl, rfl⟩
  dsimp only
  go_wp2_with fail
  go_region_law (((with_reducible show (if Region.wanted (Oper.mk (some 43) _ _ _ _ _) _ = true then _ else _)); go_simp; go_at_call 16; go_loud ((with_reducible refine HIM.out.mono ?_); rintro e w2 ⟨a2, c2, rfl, hm2⟩; have hst := conv_str hm2.row_sl; dsimp only)))
  all_goals
    have HF := hid ((Mem.devAt.2 ⟨HOK.out, ka, kc, hm2.right⟩ : Mem wb w2 (devAt T8 g D * _)).p1.right)
    clear hm2
    go_wp2_with fail
    go_ret2
    exact ⟨rfl, HF.out⟩
end Go.Proofs.Ytpdppacafkdgdaa
