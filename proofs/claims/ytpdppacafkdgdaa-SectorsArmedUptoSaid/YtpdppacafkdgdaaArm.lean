/- The walk of SectorsArmed. -/
import Derived.Test.YtpdppacafkdgdaaArmP
import Derived.Test.YtpdppacafkdgdaaImgQ
set_option linter.unusedVariables false
set_option linter.unusedSimpArgs false
namespace Go.Proofs.Ytpdppacafkdgdaa
open Go Go.RowKit Go.Le

set_option maxRecDepth 20000 in
set_option maxHeartbeats 4000000 in
theorem armed_any (W : World) (a : Option Addr) (n c : Nat) (hn : n ≤ c) (hc : c ≤ 9223372036854775807) (hs : ScriptS W a n 1048576) (step : Int) (s1 : -9223372036854775808 ≤ step) (s2 : step ≤ 9223372036854775807)
    (la : Option Addr) (lc : Nat) (l : Loss) (hsl : Sl W la l.keep.length lc (u64s l.keep)) (hok : l.ok) (hkl : l.keep.length ≤ 1048576) :
    Calls Try.prog 6 #[.slice a n c, .int .i64 step, .agg #[.slice la l.keep.length lc, .int .i64 l.torn, .int .i64 l.off]] W fun e w' => e = .returned (.bool true) ∧ Fr W.heap.size [] W w' := by
  have HS := hid hs
  have HSL := hid hsl
  have HOK := hid hok
  have hbox := (Mem.start W).alloc [.slice la l.keep.length lc, .int .i64 l.torn, .int .i64 l.off] 38
  have HBC : Hid (∀ w' R, Mem W w' (pts W.heap.size 38 [.slice la l.keep.length lc, .int .i64 l.torn, .int .i64 l.off] * R) → w'.cell? ⟨W.heap.size, 0, none⟩ = some (.slice la l.keep.length lc) ∧ w'.cell? ⟨W.heap.size, 1, none⟩ = some (.int .i64 l.torn) ∧ w'.cell? ⟨W.heap.size, 2, none⟩ = some (.int .i64 l.off)) :=
    fun w' R h => ⟨h.cell 0, h.cell 1, h.cell 2⟩
  have HN1 := hid (New_any W _ _ hbox 4 (by omega) (by omega))
  obtain ⟨st, hst⟩ : ∃ st : Nat, (st : Int) = step % 12 := ⟨(step % 12).toNat, by omega⟩
  have hst2 : st < 12 := by omega
  have HP : Hid (∀ w, Calls Try.prog 9 #[.int .i64 step, .int .i64 12] w fun e w' => e = .returned (.int .i64 (st : Int)) ∧ w = w') := by
    show ∀ w, _
    intro w
    rw [hst]
    exact pick_any w step 12 (by omega) (by omega) s1 s2
  have HP5 : Hid (∀ (w : World) (i : Int), -9223372036854775808 ≤ i → i ≤ 9223372036854775807 → Calls Try.prog 9 #[.int .i64 i, .int .i64 5] w fun e w' => e = .returned (.int .i64 (i % 5)) ∧ w = w') :=
    fun w i h1 h2 => pick_any w i 5 (by omega) (by omega) h1 h2
  clear hs hsl hok hbox hst
  go_enter Try.func6, Try.ntmps6
  go_wp2_with fail
  refine HN1.out.mono ?_
  rintro e w1 ⟨gd, rfl, hm1⟩
  dsimp only
  have HN2 := hid (New_any W w1 _ hm1 4 (by omega) (by omega))
  clear hm1 HN1
  go_wp2_with fail
  refine HN2.out.mono ?_
  rintro e w2 ⟨gc, rfl, hm2⟩
  dsimp only
  have HFX := hid (fixed_any W w2 _ hm2)
  clear hm2 HN2
  go_wp2_with (go_at_call 10; refine HFX.out.mono ?_; rintro e w3 ⟨rfl, hm3⟩; dsimp only)
  obtain ⟨D0, hD0⟩ : ∃ D0, D0 = Dev.fresh (zrs (4 * 512)) := ⟨_, rfl⟩
  rw [← hD0] at hm3
  have HD0 : Hid (D0.img.length = 2048 ∧ D0.pend = [] ∧ D0.down = false ∧ D0.armed = 0) := by subst hD0; exact hid ⟨zrs_length _, rfl, rfl, rfl⟩
  have HM3 := hid hm3
  clear hm3 HFX hD0
  go_wp2_with fail
  refine (HP.out _).mono ?_
  rintro e w4 ⟨rfl, rfl⟩
  dsimp only
  obtain ⟨b0, b1, b2⟩ := HBC.out _ _ HM3.out.p2
  have HTW := hid (twin_any W w3 _ HM3.out l la lc (fun w' h' => HSL.out.ext h'.1) hkl)
  go_wp2_with fail
  refine HTW.out.mono ?_
  rintro e w5 ⟨gk, rfl, hm5⟩
  dsimp only
  have har := Arm_any W w5 _ gd _ hm5.p2 (1 + (st : Int)) (by omega) (by omega) l _ _ (fun w' h' => h'.keep_sl hkl) HOK.out (by omega)
  rw [show D0.arm (1 + (st : Int)) l = ({ D0 with armed := 1 + (st : Int), loss := l }, 0) from by unfold Dev.arm; rw [HD0.out.2.2.1, if_neg (by simp), if_neg (by omega)]] at har
  have HAR := hid har
  have HRM : Hid (Armd l (st + 1) { D0 with armed := 1 + (st : Int), loss := l } D0) := by
    show Armd _ _ _ _
    refine ⟨rfl, rfl, rfl, HD0.out.1, by show ∀ p ∈ D0.pend, _; rw [HD0.out.2.1]; simp, fun _ => ⟨HD0.out.2.2.1, by show 1 + (st : Int) = _; omega, HD0.out.2.2.2, rfl⟩⟩
  have HPL : Hid (({ D0 with armed := 1 + (st : Int), loss := l } : Dev).pend.length ≤ 0) := by show D0.pend.length ≤ 0; rw [HD0.out.2.1]; simp
  generalize ({ D0 with armed := 1 + (st : Int), loss := l } : Dev) = D1 at *
  clear har HD0
  clear hm5 HTW b0 b1 b2
  go_wp2_with fail
  refine HAR.out.mono ?_
  rintro e w6 ⟨rfl, hm6⟩
  dsimp only
  have HM6 := hid ((hm6.eq (by ac_rfl) : Mem W w6 (pts gk 39 (u64s l.keep ++ [.int .u64 0, .int .u64 0]) * (devAt T8 gd D1 * (devAt T8 gc D0 * (pts W.heap.size 38 [.slice la l.keep.length lc, .int .i64 l.torn, .int .i64 l.off] * emp))))).right)
  clear hm6 HAR
  go_wp2_with fail
  go_loopw [1, 12] (fun sv i wr => ∃ (k m : Nat) (D C : Dev), k ≤ n ∧ k ≤ 200 ∧ m ≤ 12 ∧ i = .int .i64 k ∧ sv = .int .i64 m ∧ D.pend.length ≤ k ∧ Armd l m D C ∧ Mem W wr (devAt T8 gd D * (devAt T8 gc C * (pts W.heap.size 38 [.slice la l.keep.length lc, .int .i64 l.torn, .int .i64 l.off] * emp)))) (fun _ i _ => n - (intOf i).toNat)
  case atStart => exact ⟨0, st + 1, D1, D0, by omega, by omega, by omega, rfl, by go_num, HPL.out, HRM.out, HM6.out⟩
  case round =>
    obtain ⟨k, m, D, C, hk, hk2, hm12, rfl, rfl, hpl, hrm, hm⟩ := hrel
    clear HM6 HRM HPL
    have HRM := hid hrm
    by_cases hlt : k < n ∧ k < 200 ∧ 0 < m
    · obtain ⟨hlt, hlt2, hm0⟩ := hlt
      obtain ⟨b, o, S, rfl, hb, hcell, hok, hkS⟩ := HS.out k hlt
      have HCELL : Hid (∀ w', Fr W.heap.size [] W w' → ∀ j v, j < 8 → S.cells[j]? = some v → w'.cell? ⟨b, o + k * 8 + j, none⟩ = some v) := fun w' hfr j v hj hv => Fr.cell_ext hfr (by rw [hcell j hj, hv])
      have HOKS := hid hok
      have q0 := HCELL.out _ hm.1 0 _ (by omega) rfl
      rw [Nat.add_zero] at q0
      have q1 := HCELL.out _ hm.1 1 _ (by omega) rfl
      have q2 := HCELL.out _ hm.1 2 _ (by omega) rfl
      have q3 := HCELL.out _ hm.1 3 _ (by omega) rfl
      have q4 := HCELL.out _ hm.1 4 _ (by omega) rfl
      have q5 := HCELL.out _ hm.1 5 _ (by omega) rfl
      have q6 := HCELL.out _ hm.1 6 _ (by omega) rfl
      have q7 := HCELL.out _ hm.1 7 _ (by omega) rfl
      have kn : (k : Int) < (n : Int) := by omega
      have k200 : (k : Int) < 200 := by omega
      have hm0' : (0 : Int) < (m : Int) := by omega
      have HM := hid hm
      clear hcell hok hm
      by_cases hsk : S.kind = 7 ∨ S.kind = 8 ∨ S.kind = 5 ∨ S.kind = 6
      · have hsk2 : (S.kind == 7) = true ∨ ((S.kind == 7) = false ∧ (S.kind == 8) = true) ∨ ((S.kind == 7) = false ∧ (S.kind == 8) = false ∧ (S.kind == 5) = true) ∨ ((S.kind == 7) = false ∧ (S.kind == 8) = false ∧ (S.kind == 5) = false ∧ (S.kind == 6) = true) := by simp; omega
        clear hsk
        rcases hsk2 with h7 | ⟨h7, h8⟩ | ⟨h7, h8, h5⟩ | ⟨h7, h8, h5, h6⟩
        all_goals
          go_wp2_with fail
          go_roundw
          case rel => exact ⟨k + 1, m, D, C, by omega, by omega, by omega, by go_num, rfl, by omega, HRM.out, by first | exact HM.out.alloc' _ | trace_state⟩
          case measure => simp [intOf] <;> omega
      · have hp : played S := by unfold played; omega
        have h7 : (S.kind == 7) = false := by simp; omega
        have h8 : (S.kind == 8) = false := by simp; omega
        have h5 : (S.kind == 5) = false := by simp; omega
        have h6 : (S.kind == 6) = false := by simp; omega
        have hbx := HM.out.alloc [.int .i64 S.kind, .int .i64 S.which, .int .i64 S.i, .int .u8 (S.x.toNat : Int), .slice S.ba S.bn S.bc, .slice S.la S.l.keep.length S.lc, .int .i64 S.l.torn, .int .i64 S.l.off] 50
        have HBX : Hid (∀ w' R, Mem W w' (pts wr.heap.size 50 [.int .i64 S.kind, .int .i64 S.which, .int .i64 S.i, .int .u8 (S.x.toNat : Int), .slice S.ba S.bn S.bc, .slice S.la S.l.keep.length S.lc, .int .i64 S.l.torn, .int .i64 S.l.off] * R) → w'.cell? ⟨wr.heap.size, 0, none⟩ = some (.int .i64 S.kind) ∧ w'.cell? ⟨wr.heap.size, 1, none⟩ = some (.int .i64 S.which) ∧ w'.cell? ⟨wr.heap.size, 2, none⟩ = some (.int .i64 S.i) ∧ w'.cell? ⟨wr.heap.size, 3, none⟩ = some (.int .u8 (S.x.toNat : Int)) ∧
            w'.cell? ⟨wr.heap.size, 4, none⟩ = some (.slice S.ba S.bn S.bc) ∧ w'.cell? ⟨wr.heap.size, 5, none⟩ = some (.slice S.la S.l.keep.length S.lc) ∧ w'.cell? ⟨wr.heap.size, 6, none⟩ = some (.int .i64 S.l.torn) ∧ w'.cell? ⟨wr.heap.size, 7, none⟩ = some (.int .i64 S.l.off)) :=
          fun w' R h => ⟨h.cell 0, h.cell 1, h.cell 2, h.cell 3, h.cell 4, h.cell 5, h.cell 6, h.cell 7⟩
        have hcl := call_any W _ _ gd D hbx.p1 (by omega) S (fun w' h' => HOKS.out.ext h'.1) hkS
        unfold CallSays StepV.cells at hcl
        have HCL := hid hcl
        have HCC : Hid (∀ w' D', Mem W w' (devAt T8 gc C * (pts wr.heap.size 50 [.int .i64 S.kind, .int .i64 S.which, .int .i64 S.i, .int .u8 (S.x.toNat : Int), .slice S.ba S.bn S.bc, .slice S.la S.l.keep.length S.lc, .int .i64 S.l.torn, .int .i64 S.l.off] * (devAt T8 gd D' * (pts W.heap.size 38 [.slice la l.keep.length lc, .int .i64 l.torn, .int .i64 l.off] * emp)))) → CallSays W w' (pts wr.heap.size 50 [.int .i64 S.kind, .int .i64 S.which, .int .i64 S.i, .int .u8 (S.x.toNat : Int), .slice S.ba S.bn S.bc, .slice S.la S.l.keep.length S.lc, .int .i64 S.l.torn, .int .i64 S.l.off] * (devAt T8 gd D' * (pts W.heap.size 38 [.slice la l.keep.length lc, .int .i64 l.torn, .int .i64 l.off] * emp))) gc C S) :=
          fun w' D' h => call_any W w' _ gc C h (by rw [← HRM.out.pend]; omega) S (fun w' h' => HOKS.out.ext h'.1) hkS
        have HPD := hid (callM_pend D S)
        have HI := hid HOKS.out.i
        have HPM := hid (HP5.out · S.i HI.out.1 HI.out.2)
        clear hcl hbx HOKS
        go_wp2_with fail
        refine HCL.out.mono ?_
        rintro e w7 ⟨rfl, hm7⟩
        dsimp only
        have HM7 := hid (hm7.eq (by ac_rfl) : Mem W w7 (devAt T8 gc C * (pts wr.heap.size 50 [.int .i64 S.kind, .int .i64 S.which, .int .i64 S.i, .int .u8 (S.x.toNat : Int), .slice S.ba S.bn S.bc, .slice S.la S.l.keep.length S.lc, .int .i64 S.l.torn, .int .i64 S.l.off] * (devAt T8 gd (callM D S).1 * (pts W.heap.size 38 [.slice la l.keep.length lc, .int .i64 l.torn, .int .i64 l.off] * emp)))))
        obtain ⟨x0, x1, x2, x3, x4, x5, x6, x7⟩ := HBX.out w7 _ hm7.p1
        clear hm7 HCL HM q0 q1 q2 q3 q4 q5 q6 q7
        have hcase : ((S.kind != 1) = false ∧ changes S = false) ∨ ((S.kind != 1) = true ∧ (S.kind != 9) = false ∧ changes S = false) ∨ ((S.kind != 1) = true ∧ (S.kind != 9) = true ∧ (S.kind == 4) = false ∧ ¬ S.i % 5 < 4 ∧ changes S = false) ∨
            ((S.kind != 1) = true ∧ (S.kind != 9) = true ∧ (S.kind == 4) = true ∧ (S.kind != 4) = false ∧ S.kind = 4 ∧ changes S = true) ∨ ((S.kind != 1) = true ∧ (S.kind != 9) = true ∧ (S.kind == 4) = false ∧ (S.kind != 4) = true ∧ S.kind ≠ 4 ∧ S.i % 5 < 4 ∧ changes S = true) := by
          unfold changes
          by_cases c1 : S.kind = 1
          · left; simp [c1]
          · by_cases c9 : S.kind = 9
            · right; left; simp [c9]
            · by_cases c4 : S.kind = 4
              · right; right; right; left; simp [c4]
              · by_cases ci : S.i % 5 < 4
                · right; right; right; right; simp [c1, c9, c4, ci]
                · right; right; left; simp [c1, c9, c4]; omega
        rcases hcase with ⟨k1, hc⟩ | ⟨k1, k9, hc⟩ | ⟨k1, k9, k4, hi, hc⟩ | hch
        iterate 3
          · obtain ⟨f1, f2, f3⟩ := HRM.out.still hm0 hp hc
            have HCC2 := HCC.out w7 D
            have hm8 := HM7.out
            rw [f1] at hm8
            have hcc := HCC2 hm8
            unfold CallSays StepV.cells at hcc
            rw [f2, ← f3] at hcc
            have HCC3 := hid hcc
            have HF := hid hm8
            clear HCC HCC2 hm8 hcc f1 f2 f3 HM7 hc hp h7 h8 h5 h6
            generalize (callM D S).2 = r at *
            generalize S.i % 5 = j at *
            go_wp2_with (go_at_call 9; refine (HPM.out _).mono ?_; rintro e w' ⟨rfl, rfl⟩; dsimp only)
            refine HCC3.out.mono ?_
            rintro e w8 ⟨rfl, hm8⟩
            dsimp only
            have HF2 := hid ((hm8.eq (by ac_rfl) : Mem W w8 (pts wr.heap.size 50 [.int .i64 S.kind, .int .i64 S.which, .int .i64 S.i, .int .u8 (S.x.toNat : Int), .slice S.ba S.bn S.bc, .slice S.la S.l.keep.length S.lc, .int .i64 S.l.torn, .int .i64 S.l.off] * (devAt T8 gd D * (devAt T8 gc C * (pts W.heap.size 38 [.slice la l.keep.length lc, .int .i64 l.torn, .int .i64 l.off] * emp))))).right)
            clear hm8 HCC3 x0 x1 x2 x3 x4 x5 x6 x7
            go_wp2_with fail
            go_roundw
            case rel => exact ⟨k + 1, m, D, C, by omega, by omega, by omega, by go_num, rfl, by omega, HRM.out, HF2.out⟩
            case measure => simp [intOf] <;> omega
        · obtain ⟨m', rfl⟩ : ∃ m', m = m' + 1 := ⟨m - 1, by omega⟩
          have m0 : 0 ≤ (m' : Int) := by omega
          have m12 : (m' : Int) ≤ 12 := by omega
          rw [show ((m' + 1 : Nat) : Int) = (m' : Int) + 1 from by omega]
          clear hm0'
          by_cases hm' : 0 < m'
          · have hm1 : (0 : Int) < (m' : Int) := by omega
            rcases hch with ⟨k1, k9, k4, -, -, hc⟩ | ⟨k1, k9, k4, -, -, hi, hc⟩
            all_goals
              obtain ⟨f1, f2⟩ := HRM.out.next hm' hp hc
              have hcc := HCC.out w7 _ HM7.out
              unfold CallSays StepV.cells at hcc
              rw [← f1] at hcc
              have HCC3 := hid hcc
              have HF1 := hid f2
              clear HCC hcc f1 f2 HM7 hc hp h7 h8 h5 h6
              generalize callM D S = r at *
              generalize (callM C S).1 = rc at *
              generalize S.i % 5 = j at *
              go_wp2_with (go_at_call 9; refine (HPM.out _).mono ?_; rintro e w' ⟨rfl, rfl⟩; dsimp only)
              refine HCC3.out.mono ?_
              rintro e w8 ⟨rfl, hm8⟩
              dsimp only
              have HF2 := hid ((hm8.eq (by ac_rfl) : Mem W w8 (pts wr.heap.size 50 [.int .i64 S.kind, .int .i64 S.which, .int .i64 S.i, .int .u8 (S.x.toNat : Int), .slice S.ba S.bn S.bc, .slice S.la S.l.keep.length S.lc, .int .i64 S.l.torn, .int .i64 S.l.off] * (devAt T8 gd r.1 * (devAt T8 gc rc * (pts W.heap.size 38 [.slice la l.keep.length lc, .int .i64 l.torn, .int .i64 l.off] * emp))))).right)
              clear hm8 HCC3 x0 x1 x2 x3 x4 x5 x6 x7
              go_wp2_with fail
              go_roundw
              case rel => exact ⟨k + 1, m', r.1, rc, by omega, by omega, by omega, by go_num, by go_num, by have := HPD.out; omega, HF1.out, HF2.out⟩
              case measure => simp [intOf] <;> omega
          · obtain rfl : m' = 0 := by omega
            rw [show ((0 : Nat) : Int) + 1 = 1 from rfl]
            clear m0 m12 hm'
            rcases hch with ⟨k1, k9, k4, k4n, k4e, hc⟩ | ⟨k1, k9, k4, k4n, k4e, hi, hc⟩
            · obtain ⟨f1, f2, f3⟩ := HRM.out.fires_flush k4e
              obtain ⟨b0, b1, b2⟩ := HBC.out w7 _ (HM7.out.eq (by ac_rfl) : Mem W w7 (pts W.heap.size 38 [.slice la l.keep.length lc, .int .i64 l.torn, .int .i64 l.off] * (devAt T8 gc C * (pts wr.heap.size 50 [.int .i64 S.kind, .int .i64 S.which, .int .i64 S.i, .int .u8 (S.x.toNat : Int), .slice S.ba S.bn S.bc, .slice S.la S.l.keep.length S.lc, .int .i64 S.l.torn, .int .i64 S.l.off] * (devAt T8 gd (callM D S).1 * emp)))))
              have HTW := hid (twin_any W w7 _ HM7.out l la lc (fun w' h' => HSL.out.ext h'.1) hkl)
              have HF1 := hid f3
              have HPC : Hid (C.pend.length ≤ 4294967296) := by show _ ≤ _; rw [← HRM.out.pend]; omega
              rw [f1]
              have HF2 := hid f2
              clear HCC f1 f2 f3 HM7 hc hp h7 h8 h5 h6 k4e
              generalize callM D S = r at *
              go_wp2_with fail
              refine HTW.out.mono ?_
              rintro e w8 ⟨gk, rfl, hm8⟩
              dsimp only
              have hcr := Crash_any W w8 _ gc C hm8.p1 HPC.out l _ _ (fun w' h' => h'.keep_sl hkl) HOK.out
              rw [HF2.out] at hcr
              have HCR := hid hcr
              clear hcr hm8 HTW b0 b1 b2
              go_wp2_with fail
              refine HCR.out.mono ?_
              rintro e w9 ⟨rfl, hm9⟩
              dsimp only
              have HF3 := hid ((hm9.eq (by ac_rfl) : Mem W w9 (pts wr.heap.size 50 [.int .i64 S.kind, .int .i64 S.which, .int .i64 S.i, .int .u8 (S.x.toNat : Int), .slice S.ba S.bn S.bc, .slice S.la S.l.keep.length S.lc, .int .i64 S.l.torn, .int .i64 S.l.off] * (pts gk 39 (u64s l.keep ++ [.int .u64 0, .int .u64 0]) * (devAt T8 gd r.1 * (devAt T8 gc (C.crash l).1 * (pts W.heap.size 38 [.slice la l.keep.length lc, .int .i64 l.torn, .int .i64 l.off] * emp)))))).right.right)
              clear hm9 HCR
              go_wp2_with fail
              go_roundw
              case rel => exact ⟨k + 1, 0, r.1, (C.crash l).1, by omega, by omega, by omega, by go_num, by go_num, by have := HPD.out; omega, HF1.out, HF3.out⟩
              case measure => simp [intOf] <;> omega
            · obtain ⟨f1, f2, f3⟩ := HRM.out.fires_write hp hc k4e
              have hcc := HCC.out w7 _ HM7.out
              unfold CallSays StepV.cells at hcc
              have HCC3 := hid hcc
              have HF1 := hid f3
              have HPC : Hid ((callM C S).1.pend.length ≤ 4294967296) := by show _ ≤ _; have := callM_pend C S; have := HRM.out.pend; rw [this] at hpl; omega
              rw [f1]
              have HF2 := hid f2
              clear HCC hcc f1 f2 f3 HM7 hc hp h7 h8 h5 h6 k4e
              generalize callM D S = r at *
              generalize callM C S = rc at *
              generalize S.i % 5 = j at *
              go_wp2_with (go_at_call 9; refine (HPM.out _).mono ?_; rintro e w' ⟨rfl, rfl⟩; dsimp only)
              refine HCC3.out.mono ?_
              rintro e w8 ⟨rfl, hm8⟩
              dsimp only
              obtain ⟨b0, b1, b2⟩ := HBC.out w8 _ (hm8.eq (by ac_rfl) : Mem W w8 (pts W.heap.size 38 [.slice la l.keep.length lc, .int .i64 l.torn, .int .i64 l.off] * (devAt T8 gc rc.1 * (pts wr.heap.size 50 [.int .i64 S.kind, .int .i64 S.which, .int .i64 S.i, .int .u8 (S.x.toNat : Int), .slice S.ba S.bn S.bc, .slice S.la S.l.keep.length S.lc, .int .i64 S.l.torn, .int .i64 S.l.off] * (devAt T8 gd r.1 * emp)))))
              have HTW := hid (twin_any W w8 _ hm8 l la lc (fun w' h' => HSL.out.ext h'.1) hkl)
              clear hm8 HCC3
              go_wp2_with fail
              refine HTW.out.mono ?_
              rintro e w9 ⟨gk, rfl, hm9⟩
              dsimp only
              have hcr := Crash_any W w9 _ gc rc.1 hm9.p1 HPC.out l _ _ (fun w' h' => h'.keep_sl hkl) HOK.out
              rw [HF2.out] at hcr
              have HCR := hid hcr
              clear hcr hm9 HTW b0 b1 b2
              go_wp2_with fail
              refine HCR.out.mono ?_
              rintro e w10 ⟨rfl, hm10⟩
              dsimp only
              have HF3 := hid ((hm10.eq (by ac_rfl) : Mem W w10 (pts wr.heap.size 50 [.int .i64 S.kind, .int .i64 S.which, .int .i64 S.i, .int .u8 (S.x.toNat : Int), .slice S.ba S.bn S.bc, .slice S.la S.l.keep.length S.lc, .int .i64 S.l.torn, .int .i64 S.l.off] * (pts gk 39 (u64s l.keep ++ [.int .u64 0, .int .u64 0]) * (devAt T8 gd r.1 * (devAt T8 gc (rc.1.crash l).1 * (pts W.heap.size 38 [.slice la l.keep.length lc, .int .i64 l.torn, .int .i64 l.off] * emp)))))).right.right)
              clear hm10 HCR
              go_wp2_with fail
              go_roundw
              case rel => exact ⟨k + 1, 0, r.1, (rc.1.crash l).1, by omega, by omega, by omega, by go_num, by go_num, by have := HPD.out; omega, HF1.out, HF3.out⟩
              case measure => simp [intOf] <;> omega
    · have HIE := hid hrm.img
      have HPE := hid hrm.pend
      have HDN := hid hrm.down
      have HPL : Hid (D.pend.length ≤ 1000000000) := by show _ ≤ _; omega
      have HM := hid hm
      have hex : ((k : Int) = (n : Int)) ∨ ((k : Int) < (n : Int) ∧ (k : Int) = 200) ∨ ((k : Int) < (n : Int) ∧ (k : Int) < 200 ∧ (m : Int) = 0) := by omega
      clear hlt hm hrm hpl hk hk2 hm12
      generalize (k : Int) = z at *
      generalize (m : Int) = z' at *
      rcases hex with rfl | ⟨kn, rfl⟩ | ⟨kn, k2, rfl⟩
      all_goals
        go_wp2_with fail
        refine region_mem (by kernel_rfl) (V := fun i x => match i with | 0 => x = (.pointer (some ⟨gd, 0, none⟩) : Value) | 1 => x = (.bool D.down : Value) | 2 => x = (.pointer (some ⟨gc, 0, none⟩) : Value) | 3 => x = (.bool D.down : Value) | 4 => x = (.bool true : Value) | 5 => x = (.bool true : Value) | 6 => x = (.pointer (some ⟨gd, 0, none⟩) : Value) | 7 => ∃ a c, x = (.slice a D.img.length c : Value) | 8 => x = (.string ⟨D.img.toArray⟩ : Value) | 9 => x = (.pointer (some ⟨gc, 0, none⟩) : Value) | 10 => ∃ a c, x = (.slice a D.img.length c : Value) | 11 => x = (.string ⟨D.img.toArray⟩ : Value) | 12 => x = (.bool true : Value) | 13 => x = (.bool true : Value) | 14 => x = (.bool true : Value) | 15 => x = (.pointer (some ⟨gd, 0, none⟩) : Value) | 16 => ∃ a, x = (.slice a D.pend.length D.pend.length : Value) | 17 => x = (.pointer (some ⟨gc, 0, none⟩) : Value) | 18 => ∃ a, x = (.slice a D.pend.length D.pend.length : Value) | 19 => x = (.bool true : Value) | 20 => x = (.bool true : Value) | 21 => x = (.bool true : Value) | _ => True) (A := (fun _ => (devAt T8 gd D * (devAt T8 gc C * (pts W.heap.size 38 [.slice la l.keep.length lc, .int .i64 l.torn, .int .i64 l.off] * emp))))) (Bs := [(7, rowB 5 D.img.length (byts D.img)), (10, rowB 5 D.img.length (byts D.img)), (16, pendB T8.u8 T8.pe D.pend), (18, pendB T8.u8 T8.pe D.pend)]) HM.out (fun _ _ _ => rfl) (show ([7, 10, 16, 18] : List Nat).Nodup by decide) (by kernel_rfl) (by kernel_rfl) ?_ ?_
        · refine ⟨?_, ?_, ?_, ?_, ?_, ?_, ?_, ?_, ?_, ?_, ?_, ?_, ?_, ?_, ?_, ?_, ?_, ?_, ?_, ?_, ?_, ?_, trivial⟩
          · refine Fine2.run trivial _ rfl (fun _ => rfl) rfl (fun L a w R hw hm hmk hf => ?_)
            have e7 : a.eval (.tmp 7) = (.pointer (some ⟨gd, 0, none⟩) : Value) := (hf 7 (by decide +kernel)).old (by kernel_rfl)
            simp only [Act.eval, Array.getD_eq_getD_getElem?] at e7
            simp [execOp, resolve, invoke, builtin, go_sem, e7]
          · refine Fine2.call trivial 25 #[.pointer (some ⟨gd, 0, none⟩)] (fun a w hf => ?_) (fun L a w R hL hw hm hmk hf => ?_)
            · have e152 : a.eval (.tmp 152) = (.pointer (some ⟨gd, 0, none⟩) : Value) := (hf 152 (by decide +kernel)).new 0 (by kernel_rfl) (by kernel_rfl)
              simp only [Act.eval, Array.getD_eq_getD_getElem?] at e152
              simp [execOp, resolve, invoke, go_sem, e152]
            · refine (Down_dev W w _ gd D (hm.eq (by ac_rfl) : Mem W w (devAt T8 gd D * (devAt T8 gc C * (pts W.heap.size 38 [.slice la l.keep.length lc, .int .i64 l.torn, .int .i64 l.off] * emp) * R)))).mono ?_
              rintro e w' ⟨rfl, rfl⟩
              exact ⟨_, rfl, rfl, by show Mem W w ((devAt T8 gd D * (devAt T8 gc C * (pts W.heap.size 38 [.slice la l.keep.length lc, .int .i64 l.torn, .int .i64 l.off] * emp))) * (emp * R)); rw [emp_sep]; exact hm⟩
          · refine Fine2.run trivial _ rfl (fun _ => rfl) rfl (fun L a w R hw hm hmk hf => ?_)
            have e9 : a.eval (.tmp 9) = (.pointer (some ⟨gc, 0, none⟩) : Value) := (hf 9 (by decide +kernel)).old (by kernel_rfl)
            simp only [Act.eval, Array.getD_eq_getD_getElem?] at e9
            simp [execOp, resolve, invoke, builtin, go_sem, e9]
          · refine Fine2.call trivial 25 #[.pointer (some ⟨gc, 0, none⟩)] (fun a w hf => ?_) (fun L a w R hL hw hm hmk hf => ?_)
            · have e154 : a.eval (.tmp 154) = (.pointer (some ⟨gc, 0, none⟩) : Value) := (hf 154 (by decide +kernel)).new 2 (by kernel_rfl) (by kernel_rfl)
              simp only [Act.eval, Array.getD_eq_getD_getElem?] at e154
              simp [execOp, resolve, invoke, go_sem, e154]
            · refine (Down_dev W w _ gc C (hm.eq (by ac_rfl) : Mem W w (devAt T8 gc C * (devAt T8 gd D * (pts W.heap.size 38 [.slice la l.keep.length lc, .int .i64 l.torn, .int .i64 l.off] * emp) * R)))).mono ?_
              rintro e w' ⟨rfl, rfl⟩
              exact ⟨_, rfl, by show _ = _; rw [← HDN.out], by show Mem W w ((devAt T8 gd D * (devAt T8 gc C * (pts W.heap.size 38 [.slice la l.keep.length lc, .int .i64 l.torn, .int .i64 l.off] * emp))) * (emp * R)); rw [emp_sep]; exact hm⟩
          · refine Fine2.run trivial _ rfl (fun _ => rfl) rfl (fun L a w R hw hm hmk hf => ?_)
            have e153 : a.eval (.tmp 153) = (.bool D.down : Value) := (hf 153 (by decide +kernel)).new 1 (by kernel_rfl) (by kernel_rfl)
            have e155 : a.eval (.tmp 155) = (.bool D.down : Value) := (hf 155 (by decide +kernel)).new 3 (by kernel_rfl) (by kernel_rfl)
            simp only [Act.eval, Array.getD_eq_getD_getElem?] at e153 e155
            simp [execOp, resolve, invoke, builtin, go_sem, e153, e155]
          · refine Fine2.run trivial _ rfl (fun _ => rfl) rfl (fun L a w R hw hm hmk hf => ?_)
            have e156 : a.eval (.tmp 156) = (.bool true : Value) := (hf 156 (by decide +kernel)).new 4 (by kernel_rfl) (by kernel_rfl)
            simp only [Act.eval, Array.getD_eq_getD_getElem?] at e156
            simp [execOp, resolve, invoke, builtin, go_sem, e156]
          · refine Fine2.run ⟨_, rfl, by kernel_rfl, by kernel_rfl, fun _ h => h⟩ _ rfl (fun _ => rfl) rfl (fun L a w R hw hm hmk hf => ?_)
            have e7 : a.eval (.tmp 7) = (.pointer (some ⟨gd, 0, none⟩) : Value) := (hf 7 (by decide +kernel)).old (by kernel_rfl)
            simp only [Act.eval, Array.getD_eq_getD_getElem?] at e7
            simp [execOp, resolve, invoke, builtin, go_sem, e7]
          · refine Fine2.call ⟨_, rfl, by kernel_rfl, by kernel_rfl, fun _ h => h⟩ 16 #[.pointer (some ⟨gd, 0, none⟩)] (fun a w hf => ?_) (fun L a w R hL hw hm hmk hf => ?_)
            · have e158 : a.eval (.tmp 158) = (.pointer (some ⟨gd, 0, none⟩) : Value) := (hf 158 (by decide +kernel)).new 6 (by kernel_rfl) (by kernel_rfl)
              simp only [Act.eval, Array.getD_eq_getD_getElem?] at e158
              simp [execOp, resolve, invoke, go_sem, e158]
            · refine (Image_row W w _ gd D (hm.eq (by ac_rfl) : Mem W w (devAt T8 gd D * (devAt T8 gc C * (pts W.heap.size 38 [.slice la l.keep.length lc, .int .i64 l.torn, .int .i64 l.off] * emp) * R)))).mono ?_
              rintro e w' ⟨v, rfl, hm'⟩
              obtain ⟨a3, c3, h3, -⟩ := hm'.rowB_sl
              exact ⟨v, rfl, ⟨a3, c3, h3⟩, hm'.eq (by show _ = (devAt T8 gd D * (devAt T8 gc C * (pts W.heap.size 38 [.slice la l.keep.length lc, .int .i64 l.torn, .int .i64 l.off] * emp))) * (rowB 5 D.img.length (byts D.img) v * R); ac_rfl)⟩
          · refine Fine2.run ⟨_, rfl, by kernel_rfl, by kernel_rfl, fun _ h => h⟩ _ rfl (fun _ => rfl) rfl (fun L a w R hw hm hmk hf => ?_)
            obtain ⟨R', rfl⟩ := hmk [true, false, false, false] (by kernel_rfl)
            have hm : Mem _ w (_ * (_ * R')) := hm
            obtain ⟨a2, c2, e2, hs⟩ := hm.p1.rowB_sl
            have e159 : a.eval (.tmp 159) = .slice a2 _ c2 := e2
            have hst := conv_str hs
            simp only [Act.eval, Array.getD_eq_getD_getElem?] at e159
            simp [execOp, resolve, invoke, builtin, go_sem, e159, hst]
          · refine Fine2.run ⟨_, rfl, by kernel_rfl, by kernel_rfl, fun _ h => h⟩ _ rfl (fun _ => rfl) rfl (fun L a w R hw hm hmk hf => ?_)
            have e9 : a.eval (.tmp 9) = (.pointer (some ⟨gc, 0, none⟩) : Value) := (hf 9 (by decide +kernel)).old (by kernel_rfl)
            simp only [Act.eval, Array.getD_eq_getD_getElem?] at e9
            simp [execOp, resolve, invoke, builtin, go_sem, e9]
          · refine Fine2.call ⟨_, rfl, by kernel_rfl, by kernel_rfl, fun _ h => h⟩ 16 #[.pointer (some ⟨gc, 0, none⟩)] (fun a w hf => ?_) (fun L a w R hL hw hm hmk hf => ?_)
            · have e161 : a.eval (.tmp 161) = (.pointer (some ⟨gc, 0, none⟩) : Value) := (hf 161 (by decide +kernel)).new 9 (by kernel_rfl) (by kernel_rfl)
              simp only [Act.eval, Array.getD_eq_getD_getElem?] at e161
              simp [execOp, resolve, invoke, go_sem, e161]
            · refine (Image_row W w _ gc C (hm.eq (by ac_rfl) : Mem W w (devAt T8 gc C * (devAt T8 gd D * (pts W.heap.size 38 [.slice la l.keep.length lc, .int .i64 l.torn, .int .i64 l.off] * emp) * R)))).mono ?_
              rintro e w' ⟨v, rfl, hm'⟩
              rw [← HIE.out] at hm'
              obtain ⟨a3, c3, h3, -⟩ := hm'.rowB_sl
              exact ⟨v, rfl, ⟨a3, c3, h3⟩, hm'.eq (by show _ = (devAt T8 gd D * (devAt T8 gc C * (pts W.heap.size 38 [.slice la l.keep.length lc, .int .i64 l.torn, .int .i64 l.off] * emp))) * (rowB 5 D.img.length (byts D.img) v * R); ac_rfl)⟩
          · refine Fine2.run ⟨_, rfl, by kernel_rfl, by kernel_rfl, fun _ h => h⟩ _ rfl (fun _ => rfl) rfl (fun L a w R hw hm hmk hf => ?_)
            obtain ⟨R', rfl⟩ := hmk [false, true, false, false] (by kernel_rfl)
            have hm : Mem _ w (_ * (_ * R')) := hm
            obtain ⟨a2, c2, e2, hs⟩ := hm.p1.rowB_sl
            have e162 : a.eval (.tmp 162) = .slice a2 _ c2 := e2
            have hst := conv_str hs
            simp only [Act.eval, Array.getD_eq_getD_getElem?] at e162
            simp [execOp, resolve, invoke, builtin, go_sem, e162, hst]
          · refine Fine2.run ⟨_, rfl, by kernel_rfl, by kernel_rfl, fun _ h => h⟩ _ rfl (fun _ => rfl) rfl (fun L a w R hw hm hmk hf => ?_)
            have e160 : a.eval (.tmp 160) = (.string ⟨D.img.toArray⟩ : Value) := (hf 160 (by decide +kernel)).new 8 (by kernel_rfl) (by kernel_rfl)
            have e163 : a.eval (.tmp 163) = (.string ⟨D.img.toArray⟩ : Value) := (hf 163 (by decide +kernel)).new 11 (by kernel_rfl) (by kernel_rfl)
            simp only [Act.eval, Array.getD_eq_getD_getElem?] at e160 e163
            simp [execOp, resolve, invoke, builtin, go_sem, e160, e163]
          · refine Fine2.run trivial _ rfl (fun _ => rfl) rfl (fun L a w R hw hm hmk hf => ?_)
            have e157 : a.eval (.tmp 157) = (.bool true : Value) := (hf 157 (by decide +kernel)).new 5 (by kernel_rfl) (by kernel_rfl)
            have e164 : a.eval (.tmp 164) = (.bool true : Value) := (hf 164 (by decide +kernel)).new 12 (by kernel_rfl) (by kernel_rfl)
            simp only [Act.eval, Array.getD_eq_getD_getElem?] at e157 e164
            simp [execOp, resolve, invoke, builtin, go_sem, e157, e164]
          · refine Fine2.run trivial _ rfl (fun _ => rfl) rfl (fun L a w R hw hm hmk hf => ?_)
            have e165 : a.eval (.tmp 165) = (.bool true : Value) := (hf 165 (by decide +kernel)).new 13 (by kernel_rfl) (by kernel_rfl)
            simp only [Act.eval, Array.getD_eq_getD_getElem?] at e165
            simp [execOp, resolve, invoke, builtin, go_sem, e165]
          · refine Fine2.run ⟨_, rfl, by kernel_rfl, by kernel_rfl, fun _ h => h⟩ _ rfl (fun _ => rfl) rfl (fun L a w R hw hm hmk hf => ?_)
            have e7 : a.eval (.tmp 7) = (.pointer (some ⟨gd, 0, none⟩) : Value) := (hf 7 (by decide +kernel)).old (by kernel_rfl)
            simp only [Act.eval, Array.getD_eq_getD_getElem?] at e7
            simp [execOp, resolve, invoke, builtin, go_sem, e7]
          · refine Fine2.call ⟨_, rfl, by kernel_rfl, by kernel_rfl, fun _ h => h⟩ 27 #[.pointer (some ⟨gd, 0, none⟩)] (fun a w hf => ?_) (fun L a w R hL hw hm hmk hf => ?_)
            · have e167 : a.eval (.tmp 167) = (.pointer (some ⟨gd, 0, none⟩) : Value) := (hf 167 (by decide +kernel)).new 15 (by kernel_rfl) (by kernel_rfl)
              simp only [Act.eval, Array.getD_eq_getD_getElem?] at e167
              simp [execOp, resolve, invoke, go_sem, e167]
            · refine (Cache_row W w _ gd D (hm.eq (by ac_rfl) : Mem W w (devAt T8 gd D * (devAt T8 gc C * (pts W.heap.size 38 [.slice la l.keep.length lc, .int .i64 l.torn, .int .i64 l.off] * emp) * R))) HPL.out).mono ?_
              rintro e w' ⟨v, rfl, hm'⟩
              obtain ⟨a3, h3, -⟩ := Mem.pendB.1 hm'
              exact ⟨v, rfl, ⟨a3, h3⟩, hm'.eq (by show _ = (devAt T8 gd D * (devAt T8 gc C * (pts W.heap.size 38 [.slice la l.keep.length lc, .int .i64 l.torn, .int .i64 l.off] * emp))) * (pendB T8.u8 T8.pe D.pend v * R); ac_rfl)⟩
          · refine Fine2.run ⟨_, rfl, by kernel_rfl, by kernel_rfl, fun _ h => h⟩ _ rfl (fun _ => rfl) rfl (fun L a w R hw hm hmk hf => ?_)
            have e9 : a.eval (.tmp 9) = (.pointer (some ⟨gc, 0, none⟩) : Value) := (hf 9 (by decide +kernel)).old (by kernel_rfl)
            simp only [Act.eval, Array.getD_eq_getD_getElem?] at e9
            simp [execOp, resolve, invoke, builtin, go_sem, e9]
          · refine Fine2.call ⟨_, rfl, by kernel_rfl, by kernel_rfl, fun _ h => h⟩ 27 #[.pointer (some ⟨gc, 0, none⟩)] (fun a w hf => ?_) (fun L a w R hL hw hm hmk hf => ?_)
            · have e169 : a.eval (.tmp 169) = (.pointer (some ⟨gc, 0, none⟩) : Value) := (hf 169 (by decide +kernel)).new 17 (by kernel_rfl) (by kernel_rfl)
              simp only [Act.eval, Array.getD_eq_getD_getElem?] at e169
              simp [execOp, resolve, invoke, go_sem, e169]
            · refine (Cache_row W w _ gc C (hm.eq (by ac_rfl) : Mem W w (devAt T8 gc C * (devAt T8 gd D * (pts W.heap.size 38 [.slice la l.keep.length lc, .int .i64 l.torn, .int .i64 l.off] * emp) * R))) (by rw [← HPE.out]; exact HPL.out)).mono ?_
              rintro e w' ⟨v, rfl, hm'⟩
              rw [← HPE.out] at hm'
              obtain ⟨a3, h3, -⟩ := Mem.pendB.1 hm'
              exact ⟨v, rfl, ⟨a3, h3⟩, hm'.eq (by show _ = (devAt T8 gd D * (devAt T8 gc C * (pts W.heap.size 38 [.slice la l.keep.length lc, .int .i64 l.torn, .int .i64 l.off] * emp))) * (pendB T8.u8 T8.pe D.pend v * R); ac_rfl)⟩
          · refine .inl ⟨⟨_, rfl, by kernel_rfl, by kernel_rfl, fun _ h => h⟩, fun L a w K R hL hw hm hmk hf hK => ?_⟩
            obtain ⟨R', rfl⟩ := hmk [false, false, true, true] (by kernel_rfl)
            have hm : Mem W w ((devAt T8 gd D * (devAt T8 gc C * (pts W.heap.size 38 [.slice la l.keep.length lc, .int .i64 l.torn, .int .i64 l.off] * emp))) * (pendB T8.u8 T8.pe D.pend (Le.valOf _ a 16) * (pendB T8.u8 T8.pe D.pend (Le.valOf _ a 18) * R'))) := hm
            obtain ⟨x1, y1, m1⟩ := Mem.pendB.1 hm.p1
            obtain ⟨x2, y2, m2⟩ := Mem.pendB.1 m1.p2
            have e168 : a.eval (.tmp 168) = .slice x1 _ _ := y1
            have e170 : a.eval (.tmp 170) = .slice x2 _ _ := y2
            simp only [Act.eval, Array.getD_eq_getD_getElem?] at e168 e170
            unfold Oper.wp
            rw [show (execOp a.eval _).run Try.prog w = .ok (.enter 26 #[.slice x1 D.pend.length D.pend.length, .slice x2 D.pend.length D.pend.length]) w from by simp [execOp, resolve, invoke, go_sem, e168, e170]]
            refine (same_keep W w _ x1 x2 _ _ D.pend m2.p1 HPL.out).mono ?_
            rintro e w' ⟨rfl, hm'⟩
            refine hK _ _ rfl ?_
            have k1 := Mem.pendB.2 ⟨x1, y1, hm'⟩
            have k2 := Mem.pendB.2 ⟨x2, y2, k1.p1⟩
            exact k2.eq (by show _ = (devAt T8 gd D * (devAt T8 gc C * (pts W.heap.size 38 [.slice la l.keep.length lc, .int .i64 l.torn, .int .i64 l.off] * emp))) * (emp * (pendB T8.u8 T8.pe D.pend (Le.valOf _ a 16) * (pendB T8.u8 T8.pe D.pend (Le.valOf _ a 18) * R'))); rw [emp_sep]; ac_rfl)
          · refine Fine2.run trivial _ rfl (fun _ => rfl) rfl (fun L a w R hw hm hmk hf => ?_)
            have e166 : a.eval (.tmp 166) = (.bool true : Value) := (hf 166 (by decide +kernel)).new 14 (by kernel_rfl) (by kernel_rfl)
            have e171 : a.eval (.tmp 171) = (.bool true : Value) := (hf 171 (by decide +kernel)).new 19 (by kernel_rfl) (by kernel_rfl)
            simp only [Act.eval, Array.getD_eq_getD_getElem?] at e166 e171
            simp [execOp, resolve, invoke, builtin, go_sem, e166, e171]
          · refine Fine2.run trivial _ rfl (fun _ => rfl) rfl (fun L a w R hw hm hmk hf => ?_)
            have e172 : a.eval (.tmp 172) = (.bool true : Value) := (hf 172 (by decide +kernel)).new 20 (by kernel_rfl) (by kernel_rfl)
            simp only [Act.eval, Array.getD_eq_getD_getElem?] at e172
            simp [execOp, resolve, invoke, builtin, go_sem, e172]
        · intro u w9 hu hm9
          have hL : u 6 = .bool true := hu 6 21 rfl
          have HF := hid hm9.1
          simp only [putAll]
          rw [hL]
          clear hm9 hu hL HM
          go_simp
          go_wp2_with fail
          go_ret
          exact ⟨rfl, HF.out⟩
end Go.Proofs.Ytpdppacafkdgdaa
