/- The walks of life's plays: a crash, an armed write. -/
import Derived.Test.YtpdppacafkdgdaaKeep5
set_option linter.unusedVariables false
set_option linter.unusedSimpArgs false
namespace Go.Le
open Go Go.RowKit
theorem Mem.keep_sl {wb w : World} {R : HP} {gk : Nat} {e : TypeId} {k : List Nat} {t : List Value} (h : Mem wb w (pts gk e (u64s k ++ t) * R)) (hn : k.length ≤ 1048576) : Sl w (some ⟨gk, 0, none⟩) k.length (k.length + 2) (u64s k) := by
  have := h.blk.1.sl 0 k.length (k.length + 2) (by omega) (by rw [List.length_append, u64s_length]; omega) (by omega)
  rw [List.drop_zero, List.take_append_of_le_length (by rw [u64s_length]; exact Nat.le_refl _), List.take_of_length_le (by rw [u64s_length]; exact Nat.le_refl _)] at this
  exact this
end Go.Le
namespace Go.Proofs.Ytpdppacafkdgdaa
open Go Go.RowKit Go.Le

set_option maxRecDepth 20000 in
set_option maxHeartbeats 4000000 in
theorem plays_crash (wb w : World) (R : HP) (g : Nat) (D : Dev) (N : Nat) (h : Mem wb w (lifeH g (lifeOf D) * R)) (hg : Le.Good D N) (hN : N ≤ 1000) (kind which i : Int) (i1 : -9223372036854775808 ≤ i) (i2 : i ≤ 9223372036854775807) (hk : kind = 7 ∨ kind = 8)
    (x : UInt8) (ba : Option Addr) (bn bc : Nat) (la : Option Addr) (lc : Nat) (l : Loss) (hs : ∀ w', Mem wb w' R → Sl w' la l.keep.length lc (u64s l.keep)) (hl : l.ok) (hkl : l.keep.length ≤ 1048576) :
    Calls Try.prog 18 #[.pointer (some ⟨g, 0, none⟩), stepVal kind which i x ba bn bc la lc l] w fun e w' => e = .returned (.bool true) ∧ ∃ D', Le.Good D' N ∧ Mem wb w' (lifeH g (lifeOf D') * R) := by
  have hbox := h.alloc [.int .i64 kind, .int .i64 which, .int .i64 i, .int .u8 (x.toNat : Int), .slice ba bn bc, .slice la l.keep.length lc, .int .i64 l.torn, .int .i64 l.off] 50
  have P := hid (fun w => pick_any w i 4 (by omega) (by omega) i1 i2)
  have HG := hid hg
  have hpp := hg.pend
  have c0' : ∀ o : Obj, (w.alloc o).cell? ⟨g, 0, none⟩ = _ := fun o => (life_dev (h.alloc' o)).choose_spec.choose_spec.1
  obtain ⟨gd, A, c0, hdv, hback⟩ := life_dev hbox.p1
  have bx0 := hbox.cell 0
  have bx2 := hbox.cell 2
  have bx5 := hbox.cell 5
  have bx6 := hbox.cell 6
  have bx7 := hbox.cell 7
  simp only [List.getElem?_cons_zero, List.getElem?_cons_succ] at bx0 bx2 bx5 bx6 bx7
  have HTW := hid (twin_any wb _ _ hdv.drew l la lc (fun w' h' => hs w' h'.right.right.right) hkl)
  have HCR : Hid (D.crash l = (D.fall l, 0)) := by
    show _ = _
    unfold Dev.crash; rw [hg.down]; simp
  have HBK := hid hback
  have HL := hid hl
  unfold stepVal
  clear h hg hdv hback hbox hs c0' hl
  rcases hk with rfl | rfl
  all_goals
    go_enter Try.func18, Try.ntmps18
    go_wp2_with fail
    refine (P.out _).mono ?_
    rintro e w' ⟨rfl, rfl⟩
    dsimp only
    go_wp2_with fail
    go_region_law (first | (go_simp; go_at_call 23; go_loud ((with_reducible refine HTW.out.mono ?_); rintro e w3 ⟨gk, rfl, hm3⟩; have c0 := (HBK.out w3 _ _ hm3.q3).1; dsimp only)) | (go_simp; go_at_call 15; go_loud ((with_reducible refine (Crash_any wb _ _ gd D hm3.p1 (by omega) l _ _ (fun w' h' => h'.keep_sl hkl) HL.out).mono ?_); rintro e w4 ⟨rfl, hm4⟩; rw [HCR.out] at hm4 ⊢; dsimp only)))
    all_goals
      have b5 := hm4.p3.cell 5
      have b6 := hm4.p3.cell 6
      have b7 := hm4.p3.cell 7
      simp only [List.getElem?_cons_zero, List.getElem?_cons_succ] at b5 b6 b7
      have hm5 := (HBK.out w4 (D.fall l) _ hm4.p1.q3).2
      have HFE := hid (fell_any wb w4 _ g D l hm5 HG.out.ok HG.out.img (by omega) la l.keep.length lc HL.out)
      clear hm3 hm4 hm5 c0
      go_wp2_with (go_at_call 40; refine HFE.out.mono ?_; rintro e w5 ⟨rfl, hm6⟩; dsimp only)
      have HF := hid hm6.p1.right.p1.right
      go_wp2_with fail
      go_ret
      exact ⟨rfl, (D.fall l).up, Good.fallUp HG.out.ok HG.out.img l, HF.out⟩
end Go.Proofs.Ytpdppacafkdgdaa
