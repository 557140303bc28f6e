/- The walk of the laws' call: a crash, an arming, a write; and all kinds at once. -/
import Derived.Test.YtpdppacafkdgdaaCall1
set_option linter.unusedVariables false
set_option linter.unusedSimpArgs false
namespace Go.Proofs.Ytpdppacafkdgdaa
open Go Go.RowKit Go.Le

set_option maxRecDepth 20000 in
set_option maxHeartbeats 4000000 in
theorem call_crash (wb w : World) (R : HP) (g : Nat) (D : Dev) (h : Mem wb w (devAt T8 g D * R)) (hN : D.pend.length ≤ 1000) (which i : Int) (i1 : -9223372036854775808 ≤ i) (i2 : i ≤ 9223372036854775807)
    (x : UInt8) (ba : Option Addr) (bn bc : Nat) (b : List UInt8) (la : Option Addr) (lc : Nat) (l : Loss) (hs : ∀ w', Mem wb w' R → Sl w' la l.keep.length lc (u64s l.keep)) (hl : l.ok) (hkl : l.keep.length ≤ 1048576) : CallSays wb w R g D ⟨7, which, i, x, ba, bn, bc, b, la, lc, l⟩ := by
  have hbox := h.alloc [.int .i64 7, .int .i64 which, .int .i64 i, .int .u8 (x.toNat : Int), .slice ba bn bc, .slice la l.keep.length lc, .int .i64 l.torn, .int .i64 l.off] 50
  have P := hid (fun w => pick_any w i 5 (by omega) (by omega) i1 i2)
  have bx0 := hbox.cell 0
  have bx2 := hbox.cell 2
  have bx5 := hbox.cell 5
  have bx6 := hbox.cell 6
  have bx7 := hbox.cell 7
  simp only [List.getElem?_cons_zero, List.getElem?_cons_succ] at bx0 bx2 bx5 bx6 bx7
  have HTW := hid (twin_any wb _ _ hbox l la lc (fun w' h' => hs w' h'.right.right) hkl)
  have HL := hid hl
  have hm : callM D ⟨7, which, i, x, ba, bn, bc, b, la, lc, l⟩ = ((D.crash l).1, (D.crash l).2, []) := rfl
  unfold CallSays
  rw [hm]
  unfold StepV.cells
  clear h hbox hm hs hl
  go_enter Try.func24, Try.ntmps24
  go_wp2_with fail
  refine (P.out _).mono ?_
  rintro e w' ⟨rfl, rfl⟩
  dsimp only
  go_wp2_with fail
  refine HTW.out.mono ?_
  rintro e w2 ⟨gk, rfl, hm2⟩
  dsimp only
  have HCR := hid (Crash_any wb _ _ g D hm2.p2 (by omega) l _ _ (fun w' h' => h'.keep_sl hkl) HL.out)
  clear hm2
  go_wp2_with fail
  refine HCR.out.mono ?_
  rintro e w3 ⟨rfl, hm3⟩
  dsimp only
  have HF := hid hm3.p1.right.p1.right
  go_wp2_with fail
  go_ret2
  exact ⟨rfl, HF.out⟩

set_option maxRecDepth 20000 in
set_option maxHeartbeats 4000000 in
theorem call_arm (wb w : World) (R : HP) (g : Nat) (D : Dev) (h : Mem wb w (devAt T8 g D * R)) (kind which i : Int) (i1 : -9223372036854775808 ≤ i) (i2 : i ≤ 9223372036854775807) (hk : kind = 5 ∨ kind = 6)
    (x : UInt8) (ba : Option Addr) (bn bc : Nat) (b : List UInt8) (la : Option Addr) (lc : Nat) (l : Loss) (hs : ∀ w', Mem wb w' R → Sl w' la l.keep.length lc (u64s l.keep)) (hl : l.ok) (hkl : l.keep.length ≤ 1048576) : CallSays wb w R g D ⟨kind, which, i, x, ba, bn, bc, b, la, lc, l⟩ := by
  have hbox := h.alloc [.int .i64 kind, .int .i64 which, .int .i64 i, .int .u8 (x.toNat : Int), .slice ba bn bc, .slice la l.keep.length lc, .int .i64 l.torn, .int .i64 l.off] 50
  have P := hid (fun w => pick_any w i 5 (by omega) (by omega) i1 i2)
  have bx0 := hbox.cell 0
  have bx2 := hbox.cell 2
  have bx3 := hbox.cell 3
  have bx5 := hbox.cell 5
  have bx6 := hbox.cell 6
  have bx7 := hbox.cell 7
  simp only [List.getElem?_cons_zero, List.getElem?_cons_succ] at bx0 bx2 bx3 bx5 bx6 bx7
  have HTW := hid (twin_any wb _ _ hbox.drew l la lc (fun w' h' => hs w' h'.right.right) hkl)
  have HL := hid hl
  have hm : callM D ⟨kind, which, i, x, ba, bn, bc, b, la, lc, l⟩ = ((D.arm (x.toNat % 8 : Nat) l).1, (D.arm (x.toNat % 8 : Nat) l).2, []) := by
    rcases hk with rfl | rfl <;> rfl
  unfold CallSays
  rw [hm]
  unfold StepV.cells
  obtain ⟨m, hmm⟩ : ∃ m, m = x.toNat % 8 := ⟨_, rfl⟩
  have e1 : (x.toNat : Int).tmod 8 = (m : Int) := by rw [Int.tmod_eq_emod_of_nonneg (by omega)]; omega
  have m8 : m < 8 := by omega
  have e2 : IntKind.u8.wrap (m : Int) = (m : Int) := by simp [IntKind.wrap, IntKind.bits, IntKind.signed]; omega
  have e3 : IntKind.i64.wrap (m : Int) = (m : Int) := IntWalk.i64_in _ (by omega)
  rw [← hmm]
  have w3c : ∀ w', Mem wb w' (pts w.heap.size 50 [.int .i64 kind, .int .i64 which, .int .i64 i, .int .u8 (x.toNat : Int), .slice ba bn bc, .slice la l.keep.length lc, .int .i64 l.torn, .int .i64 l.off] * (devAt T8 g D * R)) → w'.cell? ⟨w.heap.size, 3, none⟩ = some (.int .u8 (x.toNat : Int)) := fun w' h' => h'.cell 3
  have HW3 := hid w3c
  clear h hbox hm hs hl w3c hmm
  rcases hk with rfl | rfl
  all_goals
    go_enter Try.func24, Try.ntmps24
    go_wp2_with fail
    refine (P.out _).mono ?_
    rintro e w' ⟨rfl, rfl⟩
    dsimp only
    go_wp2_with fail
    go_region_law (first | ((with_reducible show (if Region.wanted (Oper.mk (some 55) _ _ _ _ _) _ = true then _ else _)); go_simp; go_at_call 23; go_loud ((with_reducible refine HTW.out.mono ?_); rintro e w3 ⟨gk, rfl, hm3⟩; have bx3 := HW3.out w3 hm3.right; dsimp only)) | ((with_reducible show (if Region.wanted (Oper.mk (some 56) _ _ _ _ _) _ = true then _ else _)); go_simp; go_at_call 22; go_loud ((with_reducible refine (Arm_any wb _ _ g D hm3.p2 (m : Int) (by omega) (by omega) l _ _ (fun w' h' => h'.keep_sl hkl) HL.out (by omega)).mono ?_); rintro e w4 ⟨rfl, hm4⟩; dsimp only)))
    all_goals
      have HF := hid hm4.p1.right.p1.right
      clear hm3 hm4
      go_wp2_with fail
      go_ret2
      exact ⟨rfl, HF.out⟩

set_option maxRecDepth 20000 in
set_option maxHeartbeats 4000000 in
theorem call_write (wb w : World) (R : HP) (g : Nat) (D : Dev) (h : Mem wb w (devAt T8 g D * R)) (hN : D.pend.length ≤ 1000) (kind which i : Int) (i1 : -9223372036854775808 ≤ i) (i2 : i ≤ 9223372036854775807) (hk : ¬ (kind = 1 ∨ kind = 4 ∨ kind = 7 ∨ kind = 8 ∨ kind = 9 ∨ kind = 5 ∨ kind = 6))
    (x : UInt8) (ba : Option Addr) (bn bc : Nat) (b : List UInt8) (hsb : ∀ w', Mem wb w' R → Sl w' ba bn bc (byts b)) (la : Option Addr) (lc : Nat) (l : Loss) : CallSays wb w R g D ⟨kind, which, i, x, ba, bn, bc, b, la, lc, l⟩ := by
  have hbox := h.alloc [.int .i64 kind, .int .i64 which, .int .i64 i, .int .u8 (x.toNat : Int), .slice ba bn bc, .slice la l.keep.length lc, .int .i64 l.torn, .int .i64 l.off] 50
  have P := hid (fun w => pick_any w i 5 (by omega) (by omega) i1 i2)
  have bx0 := hbox.cell 0
  have bx2 := hbox.cell 2
  have bx3 := hbox.cell 3
  have bx4 := hbox.cell 4
  simp only [List.getElem?_cons_zero, List.getElem?_cons_succ] at bx0 bx2 bx3 bx4
  have HSE := hid (lawSector_any wb _ _ hbox x ba bn bc b (hsb _ hbox.right.right))
  have k4 : (kind == 4) = false := by simp; omega
  have k5 : (kind == 5) = false := by simp; omega
  have k6 : (kind == 6) = false := by simp; omega
  have k7 : (kind == 7) = false := by simp; omega
  have k8 : (kind == 8) = false := by simp; omega
  have k9 : (kind == 9) = false := by simp; omega
  have k1 : (kind == 1) = false := by simp; omega
  have hm : callM D ⟨kind, which, i, x, ba, bn, bc, b, la, lc, l⟩ = ((D.write (i % 5) (secFill x b)).1, (D.write (i % 5) (secFill x b)).2, []) := by
    show (if kind = 1 then _ else if kind = 4 then _ else if kind = 7 then _ else if kind = 8 then _ else if kind = 9 then _ else if kind = 5 ∨ kind = 6 then _ else _) = _
    rw [if_neg (by omega), if_neg (by omega), if_neg (by omega), if_neg (by omega), if_neg (by omega), if_neg (by omega)]
  unfold CallSays
  rw [hm]
  unfold StepV.cells
  obtain ⟨j, hj⟩ : ∃ j, j = i % 5 := ⟨_, rfl⟩
  have j1 : 0 ≤ j := by omega
  have j2 : j < 5 := by omega
  rw [← hj] at P ⊢
  clear h hbox hm hsb hk hj
  generalize secFill x b = z at *
  go_enter Try.func24, Try.ntmps24
  go_wp2_with fail
  refine (P.out _).mono ?_
  rintro e w' ⟨rfl, rfl⟩
  dsimp only
  go_wp2_with fail
  refine HSE.out.mono ?_
  rintro e w2 ⟨gs, rfl, -, hm2, -⟩
  dsimp only
  have HWR := hid (Write_any wb _ _ g D hm2.p2 (by omega) j (by omega) (by omega) (some ⟨gs, 0, none⟩) 512 512 z hm2.row_sl)
  clear hm2
  go_wp2_with fail
  refine HWR.out.mono ?_
  rintro e w3 ⟨rfl, hm3⟩
  dsimp only
  have HF := hid hm3.p1.right.p1.right
  go_wp2_with fail
  go_ret2
  exact ⟨rfl, HF.out⟩

/-- one step on a device, whatever its kind -/
theorem call_any (wb w : World) (R : HP) (g : Nat) (D : Dev) (h : Mem wb w (devAt T8 g D * R)) (hN : D.pend.length ≤ 1000) (S : StepV) (hS : ∀ w', Mem wb w' R → S.Ok w') (hb : S.l.keep.length ≤ 1048576) : CallSays wb w R g D S := by
  obtain ⟨kind, which, i, x, ba, bn, bc, b, la, lc, l⟩ := S
  have h0 := hS w h.right
  have i1 := h0.i.1
  have i2 := h0.i.2
  have hsb : ∀ w', Mem wb w' R → Sl w' ba bn bc (byts b) := fun w' h' => (hS w' h').b
  have hsk : ∀ w', Mem wb w' R → Sl w' la l.keep.length lc (u64s l.keep) := fun w' h' => (hS w' h').keep
  have hl : l.ok := h0.loss
  simp only at hb i1 i2
  by_cases k1 : kind = 1
  · subst k1; exact call_read wb w R g D h hN which i i1 i2 x ba bn bc b la lc l
  · by_cases k4 : kind = 4
    · subst k4; exact call_flush wb w R g D h hN which i i1 i2 x ba bn bc b la lc l
    · by_cases k7 : kind = 7
      · subst k7; exact call_crash wb w R g D h hN which i i1 i2 x ba bn bc b la lc l hsk hl hb
      · by_cases k8 : kind = 8
        · subst k8; exact call_up wb w R g D h which i i1 i2 x ba bn bc b la lc l
        · by_cases k9 : kind = 9
          · subst k9; exact call_tell wb w R g D h which i i1 i2 x ba bn bc b la lc l
          · by_cases k5 : kind = 5 ∨ kind = 6
            · exact call_arm wb w R g D h kind which i i1 i2 k5 x ba bn bc b la lc l hsk hl hb
            · exact call_write wb w R g D h hN kind which i i1 i2 (by omega) x ba bn bc b hsb la lc l
end Go.Proofs.Ytpdppacafkdgdaa
