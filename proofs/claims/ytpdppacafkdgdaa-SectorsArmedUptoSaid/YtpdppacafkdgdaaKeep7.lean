/- The walks of life's plays: an armed write. -/
import Derived.Test.YtpdppacafkdgdaaKeep6
set_option linter.unusedVariables false
set_option linter.unusedSimpArgs false
namespace Go.Le
open Go Go.RowKit
theorem Good.arm {D : Dev} {N : Nat} (h : Good D N) (l : Loss) (hl : l.ok) (i : Nat) (hi : i < 4) (b : List UInt8) (hb : b.length = 512) : ∃ E F : Dev, D.arm 1 l = (E, 0) ∧ E.pend = D.pend ∧ E.write (i : Int) b = (F.fall l, 80) ∧ F.ok ∧ F.img = D.img ∧ F.pend = D.pend ++ [(i, b)] := by
  have hEok : ({ D with armed := 1, loss := l } : Dev).ok := ⟨h.ok.img, h.ok.pend, by simp, hl.torn, hl.off, hl.keep, h.ok.calls⟩
  refine ⟨{ D with armed := 1, loss := l }, ({ D with armed := 1, loss := l, pend := D.pend ++ [(i, b)] } : Dev).count, ?_, rfl, ?_, Dev.count_ok (Dev.push_ok hEok (by show i < D.n; rw [h.n]; exact hi) hb), rfl, rfl⟩
  · unfold Dev.arm
    rw [h.down, if_neg (by simp), if_neg (by omega)]
  · have ha : ({ D with armed := 1, loss := l } : Dev).asked (i : Int) = 0 := by
      show (if D.down = true then (80 : Int) else if (i : Int) < 0 ∨ (D.n : Int) ≤ i then 81 else 0) = 0
      rw [h.down, h.n, if_neg (by simp), if_neg (by omega)]
    unfold Dev.write
    rw [ha, if_neg (by simp), if_neg (by omega)]
    rfl
end Go.Le
namespace Go.Proofs.Ytpdppacafkdgdaa
open Go Go.RowKit Go.Le

set_option maxRecDepth 20000 in
set_option maxHeartbeats 4000000 in
theorem plays_arm (wb w : World) (R : HP) (g : Nat) (D : Dev) (N : Nat) (h : Mem wb w (lifeH g (lifeOf D) * R)) (hg : Le.Good D N) (hN : N ≤ 900) (kind which i : Int) (i1 : -9223372036854775808 ≤ i) (i2 : i ≤ 9223372036854775807) (hk : kind = 5 ∨ kind = 6)
    (x : UInt8) (ba : Option Addr) (bn bc : Nat) (b : List UInt8) (hsb : ∀ w', Mem wb w' R → Sl w' ba bn bc (byts b)) (la : Option Addr) (lc : Nat) (l : Loss) (hs : ∀ w', Mem wb w' R → Sl w' la l.keep.length lc (u64s l.keep)) (hl : l.ok) (hkl : l.keep.length ≤ 1048576) :
    Calls Try.prog 18 #[.pointer (some ⟨g, 0, none⟩), stepVal kind which i x ba bn bc la lc l] w fun e w' => e = .returned (.bool true) ∧ ∃ D', Le.Good D' N ∧ Mem wb w' (lifeH g (lifeOf D') * R) := by
  have hbox := h.alloc [.int .i64 kind, .int .i64 which, .int .i64 i, .int .u8 (x.toNat : Int), .slice ba bn bc, .slice la l.keep.length lc, .int .i64 l.torn, .int .i64 l.off] 50
  obtain ⟨j, hj⟩ : ∃ j : Nat, i % 4 = (j : Int) := ⟨(i % 4).toNat, by omega⟩
  have hj4 : j < 4 := by omega
  have P := hid (fun w => pick_any w i 4 (by omega) (by omega) i1 i2)
  rw [hj] at P
  obtain ⟨E, F, a1, a2, a3, a4, a5, a6⟩ := hg.arm l hl j hj4 (secFill x b) (secFill_length x b)
  have HG := hid hg
  have hpp := hg.pend
  have bx0 := hbox.cell 0
  have bx2 := hbox.cell 2
  have bx3 := hbox.cell 3
  have bx4 := hbox.cell 4
  simp only [List.getElem?_cons_zero, List.getElem?_cons_succ] at bx0 bx2 bx3 bx4
  have HSE := hid (lawSector_any wb _ _ hbox x ba bn bc b (hsb _ hbox.right.right))
  have HA1 := hid a1
  have HA2 := hid a2
  have HA3 := hid a3
  have HA4 := hid a4
  have HA5 := hid a5
  have HA6 := hid a6
  have HS := hid hs
  have HL := hid hl
  have HSL := hid (secFill_length x b)
  obtain ⟨pi, hi, hzz, hsz, hby⟩ := info_parts peInfo
  have JI := hid hi
  have JZ := hid hzz
  have JS := hid hsz
  have JB := hid hby
  clear hi hzz hsz hby
  unfold stepVal
  clear h hg hbox hs hl a1 a2 a3 a4 a5 a6 hj hsb
  generalize secFill x b = z at *
  rcases hk with rfl | rfl
  all_goals
    go_enter Try.func18, Try.ntmps18
    go_wp2_with fail
    refine (P.out _).mono ?_
    rintro e w' ⟨rfl, rfl⟩
    dsimp only
    go_wp2_with fail
    refine HSE.out.mono ?_
    rintro e w2 ⟨gs, rfl, -, hm2, -⟩
    dsimp only
    have d5 := hm2.p1.cell 5
    have d6 := hm2.p1.cell 6
    have d7 := hm2.p1.cell 7
    simp only [List.getElem?_cons_zero, List.getElem?_cons_succ] at d5 d6 d7
    obtain ⟨gd, A, c0, hdv, hback⟩ := life_dev hm2.p2
    have HTW := hid (twin_any wb _ _ hdv.drew l la lc (fun w' h' => HS.out w' h'.right.right.right.right) hkl)
    have HBK := hid hback
    clear hm2 hdv hback HSE bx0 bx2 bx3 bx4
    go_wp2_with fail
    go_region_law (first | (go_simp; go_at_call 23; go_loud ((with_reducible refine HTW.out.mono ?_); rintro e w3 ⟨gk, rfl, hm3⟩; have c0 := (HBK.out w3 _ _ hm3.q3).1; dsimp only)) | (go_simp; go_at_call 22; go_loud ((with_reducible refine (Arm_any wb _ _ gd D hm3.p1 1 (by omega) (by omega) l _ _ (fun w' h' => h'.keep_sl hkl) HL.out (by omega)).mono ?_); rintro e w4 ⟨rfl, hm4⟩; rw [HA1.out] at hm4 ⊢; dsimp only)))
    all_goals
      have c0 := (HBK.out _ _ _ hm4.p1.q3).1
      have HWR := hid (Write_any wb _ _ gd E hm4 (by rw [HA2.out]; omega) j (by omega) (by omega) (some ⟨gs, 0, none⟩) 512 512 z hm4.p3.row_sl)
      rw [HA3.out] at HWR
      clear hm3 hm4
      go_wp2_with fail
      refine HWR.out.mono ?_
      rintro e w5 ⟨rfl, hm5⟩
      dsimp only
      have hm6 := (HBK.out w5 (F.fall l) _ hm5.p1.q3).2.p1
      obtain ⟨pa, pc, cs, REST, l1, l2, l3, l4, -, l5⟩ := life_list hm6 HSL.out
      dsimp only [lifeOf] at l1 l2 l3 l4 l5
      have hq := hid (l4.alloc [.int .i64 (j : Int), .slice (some ⟨gs, 0, none⟩) 512 512] T8.pe)
      have HL5 := hid l5
      clear HWR HTW hm5 hm6 l4 l5 c0 d5 d6 d7
      go_wp2_with ((with_reducible show wpList _ _ _ (Oper.mk (some 108) _ _ _ _ _ :: _) _ _); refine wpList_append (by rfl) (.tmp 103) (.tmp 107) 30 (by rfl) Try.underlying30 JI.out JZ.out JS.out JB.out (by rfl) (by omega) (by rfl) (by rfl) hq.out.p1 rfl (by rfl) (news_built hq.out.blk.1) (by intro h; cases h) (by simp; exact ⟨rfl, rfl⟩) (by omega) (by omega) ?_)
      intro a' c' w6 hm6 _ _
      obtain ⟨⟨v6, x6⟩, y6, hm7⟩ := HL5.out w6 a' c' j hm6.duo_row.p1.right
      have hfs : secs D = secs F := by unfold secs; rw [HA5.out]
      rw [← HA6.out, hfs] at hm7
      have b5 := hm7.p2.cell 5
      have b6 := hm7.p2.cell 6
      have b7 := hm7.p2.cell 7
      simp only [List.getElem?_cons_zero, List.getElem?_cons_succ] at b5 b6 b7
      have HFE := hid (fell_any wb _ _ g F l hm7 HA4.out (by rw [HA5.out]; exact HG.out.img) (by rw [HA6.out, List.length_append]; simp; omega) la l.keep.length lc HL.out)
      clear hm6 hm7 hfs hq
      go_wp2_with (go_at_call 40; refine HFE.out.mono ?_; rintro e w7 ⟨rfl, hm8⟩; dsimp only)
      have HF := hid hm8.p1.right.p1.right
      go_wp2_with fail
      go_ret
      exact ⟨rfl, (F.fall l).up, Good.fallUp HA4.out (by rw [HA5.out]; exact HG.out.img) l, HF.out⟩
end Go.Proofs.Ytpdppacafkdgdaa
