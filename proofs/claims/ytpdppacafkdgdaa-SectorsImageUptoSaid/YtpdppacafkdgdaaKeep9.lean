/- The walk of SectorsKeep. -/
import Derived.Test.YtpdppacafkdgdaaKeep8
import Derived.Test.YtpdppacafkdgdaaSteps
set_option linter.unusedVariables false
set_option linter.unusedSimpArgs false
namespace Go.Le
open Go Go.RowKit
theorem Good.more {D : Dev} {N : Nat} (h : Good D N) : Good D (N + 1) := ⟨h.ok, h.img, h.down, h.armed, by have := h.pend; omega⟩
theorem StepV.Ok.ext {S : StepV} {w w' : World} (h : S.Ok w) (hf : Fr w.heap.size [] w w') : S.Ok w' := ⟨h.i, h.b.ext hf, h.keep.ext hf, h.loss⟩
end Go.Le
namespace Go.Proofs.Ytpdppacafkdgdaa
open Go Go.RowKit Go.Le

theorem plays_any (wb w : World) (R : HP) (g : Nat) (D : Dev) (N : Nat) (h : Mem wb w (lifeH g (lifeOf D) * R)) (hg : Le.Good D N) (hN : N ≤ 900) (S : StepV) (hS : ∀ w', Mem wb w' R → S.Ok w') (hb : S.l.keep.length ≤ 1048576) :
    Calls Try.prog 18 #[.pointer (some ⟨g, 0, none⟩), .agg S.cells.toArray] w fun e w' => e = .returned (.bool true) ∧ ∃ D', Le.Good D' (N + 1) ∧ Mem wb w' (lifeH g (lifeOf D') * R) := by
  obtain ⟨kind, which, i, x, ba, bn, bc, b, la, lc, l⟩ := S
  have h0 := hS w h.right
  have i1 := h0.i.1
  have i2 := h0.i.2
  have hsb : ∀ w', Mem wb w' R → Sl w' ba bn bc (byts b) := fun w' h' => (hS w' h').b
  have hsk : ∀ w', Mem wb w' R → Sl w' la l.keep.length lc (u64s l.keep) := fun w' h' => (hS w' h').keep
  have hl : l.ok := h0.loss
  simp only at hb i1 i2
  by_cases k4 : kind = 4
  · subst k4
    exact (plays_flush wb w R g D N h hg (by omega) which i i1 i2 x ba bn bc la lc l).mono fun e w' ⟨he, D', hg', hm⟩ => ⟨he, D', hg'.more, hm⟩
  · by_cases k7 : kind = 7 ∨ kind = 8
    · exact (plays_crash wb w R g D N h hg (by omega) kind which i i1 i2 k7 x ba bn bc la lc l hsk hl hb).mono fun e w' ⟨he, D', hg', hm⟩ => ⟨he, D', hg'.more, hm⟩
    · by_cases k5 : kind = 5 ∨ kind = 6
      · exact (plays_arm wb w R g D N h hg hN kind which i i1 i2 k5 x ba bn bc b hsb la lc l hsk hl hb).mono fun e w' ⟨he, D', hg', hm⟩ => ⟨he, D', hg'.more, hm⟩
      · by_cases k1 : kind = 1 ∨ kind = 9
        · exact (plays_look wb w R g D N h hg (by omega) kind which i i1 i2 k1 x ba bn bc la lc l).mono fun e w' ⟨he, hm⟩ => ⟨he, D, hg.more, hm⟩
        · exact plays_write wb w R g D N h hg hN kind which i i1 i2 (by omega) x ba bn bc b hsb la lc l

set_option maxRecDepth 20000 in
set_option maxHeartbeats 4000000 in
theorem keep_any (W : World) (a : Option Addr) (n c : Nat) (hn : n ≤ c) (hc : c ≤ 9223372036854775807) (hs : ScriptS W a n 1048576) :
    Calls Try.prog 5 #[.slice a n c] W fun e w' => e = .returned (.bool true) ∧ Fr W.heap.size [] W w' := by
  have HS := hid hs
  clear hs
  go_enter Try.func5, Try.ntmps5
  go_wp2_with fail
  refine (born_any W W emp (Mem.start W)).mono ?_
  rintro e w1 ⟨g, rfl, hm1⟩
  dsimp only
  rw [newLife_eq] at hm1
  have HM1 := hid hm1
  clear hm1
  go_wp2_with fail
  go_loopw [4, 5] (fun okv i wr => ∃ (k : Nat) (D : Dev), k ≤ n ∧ k ≤ 200 ∧ okv = .bool true ∧ i = .int .i64 k ∧ Le.Good D k ∧ Mem W wr (lifeH g (lifeOf D) * emp)) (fun _ i _ => n - (intOf i).toNat)
  case atStart => exact ⟨0, _, by omega, by omega, rfl, rfl, good_new, HM1.out⟩
  case round =>
    obtain ⟨k, D, hk, hk2, rfl, rfl, hg, hm⟩ := hrel
    clear HM1
    have fin : Hid (Calls Try.prog 19 #[.pointer (some ⟨g, 0, none⟩)] wr fun e w' => e = .returned (.bool true) ∧ Mem W w' (lifeH g (lifeOf D) * emp)) :=
      reads_any W wr _ g _ hm (by show D.pend.length ≤ _; have := hg.pend; omega) (by show D.pend.length ≤ _; have := hg.pend; omega) hg.down hg.n rfl (by
        intro i b hi hib
        rw [show (lifeOf D).image = secs D from rfl, secs_at _ i hi] at hib
        obtain rfl := Option.some.inj hib
        rfl)
    have HSE : Hid (∀ i b, i < 4 → (lifeOf D).image[i]? = some b → sec (lifeOf D).d.img i = b) := by
      intro i b hi hib
      rw [show (lifeOf D).image = secs D from rfl, secs_at _ i hi] at hib
      exact Option.some.inj hib
    have HG := hid hg
    have HM := hid hm
    clear hg hm
    by_cases hlt : k < n
    · by_cases hlt2 : k < 200
      · obtain ⟨b, o, S, rfl, hb, hcell, hok, hkl⟩ := HS.out k hlt
        have hfr := HM.out.1
        have cells : ∀ j v, j < 8 → S.cells[j]? = some v → wr.cell? ⟨b, o + k * 8 + j, none⟩ = some v := fun j v hj hv => Fr.cell_ext hfr (by rw [hcell j hj, hv])
        have q0 := cells 0 _ (by omega) rfl
        rw [Nat.add_zero] at q0
        have q1 := cells 1 _ (by omega) rfl
        have q2 := cells 2 _ (by omega) rfl
        have q3 := cells 3 _ (by omega) rfl
        have q4 := cells 4 _ (by omega) rfl
        have q5 := cells 5 _ (by omega) rfl
        have q6 := cells 6 _ (by omega) rfl
        have q7 := cells 7 _ (by omega) rfl
        have HPL := hid (plays_any W wr emp g D k HM.out HG.out (by omega) S (fun w' h' => hok.ext h'.1) hkl)
        have kn : (k : Int) < (n : Int) := by omega
        clear hcell cells fin HSE hfr
        unfold StepV.cells at HPL
        go_wp2_with fail
        refine HPL.out.mono ?_
        rintro e w5 ⟨rfl, D', hg', hm'⟩
        dsimp only
        have HG' := hid hg'
        have HM' := hid hm'
        clear hg' hm' HPL q0 q1 q2 q3 q4 q5 q6 q7
        go_wp2_with fail
        go_roundw
        case rel => exact ⟨k + 1, D', by omega, by omega, rfl, by go_num, HG'.out, HM'.out⟩
        case measure => simp [intOf] <;> omega
      · obtain rfl : k = 200 := by omega
        rw [show ((200 : Nat) : Int) = 200 from rfl]
        have kn : (200 : Int) < (n : Int) := by omega
        go_wp2_with (first | (go_at_call 19; refine fin.out.mono ?_; rintro e w' ⟨rfl, hm11⟩; dsimp only) | (go_at_call 20; refine (durable_any W _ _ g _ hm11 HG.out.img rfl HSE.out).mono ?_; rintro e w' ⟨rfl, hm12⟩; dsimp only))
        have HF := hid hm12.1
        clear hm12
        go_wp2_with fail
        go_ret
        exact ⟨rfl, HF.out⟩
    · obtain rfl : k = n := by omega
      go_wp2_with (first | (go_at_call 19; refine fin.out.mono ?_; rintro e w' ⟨rfl, hm11⟩; dsimp only) | (go_at_call 20; refine (durable_any W _ _ g _ hm11 HG.out.img rfl HSE.out).mono ?_; rintro e w' ⟨rfl, hm12⟩; dsimp only))
      have HF := hid hm12.1
      clear hm12
      go_wp2_with fail
      go_ret
      exact ⟨rfl, HF.out⟩
end Go.Proofs.Ytpdppacafkdgdaa
