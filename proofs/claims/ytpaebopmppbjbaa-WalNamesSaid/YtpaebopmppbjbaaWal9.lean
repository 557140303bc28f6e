/- The walks of wal's begun, Open. -/
import Derived.Test.YtpaebopmppbjbaaWal8
set_option linter.unusedVariables false
set_option linter.unusedSimpArgs false
namespace Go.Proofs.Ytpaebopmppbjbaa
open Go Go.RowKit Go.Le

theorem Sectors_dev (wb w : World) (R : HP) (g : Nat) (D : Dev) (h : Mem wb w (devAt T8 g D * R)) : Calls Try.prog 28 #[.pointer (some ⟨g, 0, none⟩)] w fun e w' => e = .returned (.int .i64 (D.n : Int)) ∧ w = w' := by
  obtain ⟨hok, ka, kc, h1⟩ := Mem.devAt.1 h
  exact Sectors_any wb w _ g D ka _ kc h1 hok
theorem Down_dev (wb w : World) (R : HP) (g : Nat) (D : Dev) (h : Mem wb w (devAt T8 g D * R)) :
    Calls Try.prog 40 #[.pointer (some ⟨g, 0, none⟩)] w fun e w' => e = .returned (.bool D.down) ∧ w = w' := by
  obtain ⟨hok, ka, kc, h1⟩ := Mem.devAt.1 h
  exact Down_any wb w _ g D ka _ kc h1
theorem Cache_dev (wb w : World) (R : HP) (g : Nat) (D : Dev) (h : Mem wb w (devAt T8 g D * R)) (hpl : D.pend.length ≤ 1000000000) :
    Calls Try.prog 16 #[.pointer (some ⟨g, 0, none⟩)] w fun e w' => ∃ a, e = .returned (.slice a D.pend.length D.pend.length) ∧ Mem wb w' (pends T8.u8 T8.pe a D.pend.length D.pend * (devAt T8 g D * R)) := by
  obtain ⟨hok, ka, kc, h1⟩ := Mem.devAt.1 h
  refine (Cache_any wb w _ g D ka _ kc h1 hok hpl).mono ?_
  rintro e w' ⟨a, rfl, hm⟩
  refine ⟨a, rfl, ?_⟩
  have := (Mem.devAt.2 ⟨hok, ka, kc, hm.q2⟩ : Mem wb w' (devAt T8 g D * _))
  exact this.eq (by ac_rfl)
/-- a disk with room for pages -/
def diskB (g : Nat) (p : Nat) (v : Value) : HP := pur (v = .agg #[.pointer (some ⟨g, 0, none⟩), .int .i64 (p : Int)])

theorem begun_nil (wb w : World) (R : HP) (h : Mem wb w R) : Calls Try.prog 19 #[.pointer none] w fun e w' => e = .panicked [errP 45 3] ∧ Mem wb w' R := by
  have H := hid h
  clear h
  go_enter Try.func19, Try.ntmps19
  go_wp2_with (go_at_call 39; refine (must_no _ 3 (by omega)).mono ?_; rintro e w' ⟨rfl, rfl⟩; dsimp only)
  exact ⟨rfl, rfl, H.out.alloc' _⟩

set_option maxRecDepth 20000 in
set_option maxHeartbeats 4000000 in
theorem begun_any (wb w : World) (R : HP) (g : Nat) (D : Dev) (h : Mem wb w (devAt T8 g D * R)) (hpl : D.pend.length ≤ 900000000) :
    Calls Try.prog 19 #[.pointer (some ⟨g, 0, none⟩)] w (IoSays wb g R (ioBegun D) (diskB g)) := by
  have hbx := h.alloc [.pointer none, .int .i64 0] 54
  have hm := hbx.right
  have HDN := hid (Down_dev wb _ _ g D hm)
  have HSE := hid (Sectors_dev wb _ _ g D hm)
  obtain ⟨hok, -⟩ := Mem.devAt.1 hm
  have hn : D.n ≤ 4096 := by obtain ⟨n, a, b, c⟩ := hok.img; unfold Dev.n; omega
  have HRO : Hid (∀ w, Calls Try.prog 9 #[.int .i64 (D.n : Int)] w fun e w' => e = .returned (.int .i64 ((roomOf D.n : Nat) : Int)) ∧ w = w') := by
    show ∀ w, _
    intro w
    have := Room_any w (D.n : Int) (by omega) (by omega)
    rw [Int.toNat_natCast] at this
    exact this
  have HI : Hid (ioBegun D = if D.down then (.error 80, D) else if roomOf D.n = 0 then (.error 92, D) else if D.pend = [] then (.ok (roomOf D.n), D) else (ioFlush.and fun _ => Io.ret (roomOf D.n)) D) := hid rfl
  have HM := hid hm
  have HBX := hid hbx
  have HCA := hid (Cache_dev wb _ _ g D (hbx.eq (by ac_rfl) : Mem wb _ (devAt T8 g D * (pts w.heap.size 54 [.pointer none, .int .i64 0] * R))) (by omega))
  clear h hbx hm hok
  cases hd : D.down with
  | true =>
    rw [hd] at HDN HI
    have HE : Hid (ioBegun D = (.error 80, D)) := HI
    clear HI HSE HRO HCA HBX
    go_enter Try.func19, Try.ntmps19
    go_wp2_with (first | (go_at_call 40; refine HDN.out.mono ?_; rintro e w' ⟨rfl, rfl⟩; dsimp only) | (go_at_call 39; refine (must_no _ 80 (by omega)).mono ?_; rintro e w' ⟨rfl, rfl⟩; dsimp only))
    exact ⟨rfl, IoSays.mkError HE.out (by omega) HM.out⟩
  | false =>
    rw [hd] at HDN HI
    by_cases hr : roomOf D.n = 0
    · have HE : Hid (ioBegun D = (.error 92, D)) := by
        show _ = _
        rw [HI.out, if_neg (by simp), if_pos hr]
      rw [hr] at HRO
      clear HI HCA HBX hr
      generalize (D.n : Int) = z at *
      go_enter Try.func19, Try.ntmps19
      go_wp2_with (first | (go_at_call 40; refine HDN.out.mono ?_; rintro e w' ⟨rfl, rfl⟩; dsimp only) | (go_at_call 28; refine HSE.out.mono ?_; rintro e w' ⟨rfl, rfl⟩; dsimp only) | (go_at_call 9; refine (HRO.out _).mono ?_; rintro e w' ⟨rfl, rfl⟩; dsimp only; rw [show ((0 : Nat) : Int) = 0 from rfl]) | (go_at_call 39; refine (must_no _ 92 (by omega)).mono ?_; rintro e w' ⟨rfl, rfl⟩; dsimp only))
      exact ⟨rfl, IoSays.mkError HE.out (by omega) HM.out⟩
    · have hri : ((roomOf D.n : Int) == 0) = false := by rw [beq_eq_false_iff_ne]; omega
      have HI2 : Hid (ioBegun D = if D.pend = [] then (.ok (roomOf D.n), D) else (ioFlush.and fun _ => Io.ret (roomOf D.n)) D) := by
        show _ = _
        rw [HI.out, if_neg (by simp), if_neg hr]
      clear HI hr hn
      generalize roomOf D.n = p at *
      generalize (D.n : Int) = z at *
      by_cases hp : D.pend = []
      · have HE : Hid (ioBegun D = (.ok p, D)) := by
          show _ = _
          rw [HI2.out, if_pos hp]
        have hp0 : D.pend.length = 0 := by rw [hp]; rfl
        rw [hp0] at HCA
        clear HI2 hp hp0 hpl
        go_enter Try.func19, Try.ntmps19
        go_wp2_with (first | (go_at_call 40; refine HDN.out.mono ?_; rintro e w' ⟨rfl, rfl⟩; dsimp only) | (go_at_call 28; refine HSE.out.mono ?_; rintro e w' ⟨rfl, rfl⟩; dsimp only) | (go_at_call 9; refine (HRO.out _).mono ?_; rintro e w' ⟨rfl, rfl⟩; dsimp only) | (go_at_call 16; refine HCA.out.mono ?_; rintro e w2 ⟨ac, rfl, hm2⟩; dsimp only; have HM2 := hid hm2; have hb := hm2.p2; have q0 := hb.cell 0; have q1 := hb.cell 1; have f0 := hb.frozen 0; have f1 := hb.frozen 1; simp only [List.getElem?_cons_zero, List.getElem?_cons_succ] at q0 q1; clear hm2 hb))
        have hm4 := (((HM2.out.p2).setCell 0 (.pointer (some ⟨g, 0, none⟩))).setCell 1 (.int .i64 (p : Int)))
        simp only [List.set_cons_zero, List.set_cons_succ] at hm4
        have c0 := hm4.cell 0
        have c1 := hm4.cell 1
        simp only [List.getElem?_cons_zero, List.getElem?_cons_succ] at c0 c1
        refine bodyPost_ret (v := .agg #[.pointer (some ⟨g, 0, none⟩), .int .i64 (p : Int)]) (by simp [results, Try.results19, go_sem, c0, c1, q0, q1, f0, f1]) rfl (IoSays.mkOk HE.out ?_)
        unfold diskB
        rw [Mem.pur]
        exact ⟨rfl, hm4.right.right⟩
      · have hp0 : 0 < D.pend.length := by cases hx : D.pend with | nil => exact absurd hx hp | cons x r => simp
        obtain ⟨r2, HR2⟩ : ∃ r, Hid (ioFlush D = r) := ⟨_, hid rfl⟩
        have HFL : Hid (∀ w R', Mem wb w (devAt T8 g D * R') → Calls Try.prog 41 #[.pointer (some ⟨g, 0, none⟩)] w fun e w' => e = .returned (.int .i64 D.flush.2) ∧ Mem wb w' (devAt T8 g D.flush.1 * R')) := fun w R' h => Flush_any wb w R' g D h (by omega)
        have HI3 : Hid (ioBegun D = (ioFlush.and fun _ => Io.ret p) D) := by
          show _ = _
          rw [HI2.out, if_neg hp]
        have hp1 : (0 : Int) < (D.pend.length : Int) := by omega
        have hR2 := HR2.out
        unfold ioFlush at hR2
        obtain ⟨rf, HRF⟩ : ∃ r, Hid (D.flush = r) := ⟨_, hid rfl⟩
        rw [HRF.out] at hR2 HFL
        obtain ⟨Df, c⟩ := rf
        dsimp only at hR2 HFL
        clear HI2 hp
        generalize D.pend.length = nl at *
        by_cases hc : c = 0
        · subst hc
          rw [if_pos rfl] at hR2
          subst hR2
          have HE : Hid (ioBegun D = (.ok p, Df)) := by
            show _ = _
            rw [HI3.out]
            exact Io.and_ok HR2.out
          clear HI3 HR2 HRF hpl hp0
          go_enter Try.func19, Try.ntmps19
          go_wp2_with (first | (go_at_call 40; refine HDN.out.mono ?_; rintro e w' ⟨rfl, rfl⟩; dsimp only) | (go_at_call 28; refine HSE.out.mono ?_; rintro e w' ⟨rfl, rfl⟩; dsimp only) | (go_at_call 9; refine (HRO.out _).mono ?_; rintro e w' ⟨rfl, rfl⟩; dsimp only) | (go_at_call 16; refine HCA.out.mono ?_; rintro e w2 ⟨ac, rfl, hm2⟩; dsimp only; have HM2 := hid hm2; clear hm2) | (go_at_call 41; refine (HFL.out _ _ HM2.out.right).mono ?_; rintro e w3 ⟨rfl, hm3⟩; dsimp only; have HM3 := hid hm3; have hb := hm3.p1; have q0 := hb.cell 0; have q1 := hb.cell 1; have f0 := hb.frozen 0; have f1 := hb.frozen 1; simp only [List.getElem?_cons_zero, List.getElem?_cons_succ] at q0 q1; clear hm3 hb) | (go_at_call 39; refine (must_ok _).mono ?_; rintro e w' ⟨rfl, rfl⟩; dsimp only))
          have hm4 := (((HM3.out.p1).setCell 0 (.pointer (some ⟨g, 0, none⟩))).setCell 1 (.int .i64 (p : Int)))
          simp only [List.set_cons_zero, List.set_cons_succ] at hm4
          have c0 := hm4.cell 0
          have c1 := hm4.cell 1
          simp only [List.getElem?_cons_zero, List.getElem?_cons_succ] at c0 c1
          refine bodyPost_ret (v := .agg #[.pointer (some ⟨g, 0, none⟩), .int .i64 (p : Int)]) (by simp [results, Try.results19, go_sem, c0, c1, q0, q1, f0, f1]) rfl (IoSays.mkOk HE.out ?_)
          unfold diskB
          rw [Mem.pur]
          exact ⟨rfl, hm4.right⟩
        · rw [if_neg hc] at hR2
          subst hR2
          have HE : Hid (ioBegun D = (.error c, Df)) := by
            show _ = _
            rw [HI3.out]
            exact Io.and_error HR2.out
          have HC := hid hc
          clear HI3 HR2 HRF hpl hp0 hc
          go_enter Try.func19, Try.ntmps19
          go_wp2_with (first | (go_at_call 40; refine HDN.out.mono ?_; rintro e w' ⟨rfl, rfl⟩; dsimp only) | (go_at_call 28; refine HSE.out.mono ?_; rintro e w' ⟨rfl, rfl⟩; dsimp only) | (go_at_call 9; refine (HRO.out _).mono ?_; rintro e w' ⟨rfl, rfl⟩; dsimp only) | (go_at_call 16; refine HCA.out.mono ?_; rintro e w2 ⟨ac, rfl, hm2⟩; dsimp only; have HM2 := hid hm2; clear hm2) | (go_at_call 41; refine (HFL.out _ _ HM2.out.right).mono ?_; rintro e w3 ⟨rfl, hm3⟩; dsimp only; have HM3 := hid hm3; have hb := hm3.p1; have q0 := hb.cell 0; have q1 := hb.cell 1; have f0 := hb.frozen 0; have f1 := hb.frozen 1; simp only [List.getElem?_cons_zero, List.getElem?_cons_succ] at q0 q1; clear hm3 hb) | (go_at_call 39; refine (must_no _ _ HC.out).mono ?_; rintro e w' ⟨rfl, rfl⟩; dsimp only))
          exact ⟨rfl, IoSays.mkError HE.out HC.out HM3.out.p1.right⟩
end Go.Proofs.Ytpaebopmppbjbaa
