/- The walk of wal's Clear. -/
import Derived.Test.YtpaebopmppbjbaaWal11
set_option linter.unusedVariables false
set_option linter.unusedSimpArgs false
namespace Go.Le
open Go Go.RowKit
theorem room_need {s : Nat} (h : roomOf s ≠ 0) : 1 ≤ roomOf s ∧ 4 * roomOf s + 1 ≤ s := by
  unfold roomOf at *
  split at h
  · exact absurd rfl h
  · rename_i h5
    rw [if_neg h5]
    omega
theorem begun_ok {D D' : Dev} {p : Nat} (h : ioBegun D = (.ok p, D')) : p = roomOf D.n ∧ roomOf D.n ≠ 0 ∧ D'.pend.length ≤ D.pend.length := by
  unfold ioBegun at h
  split at h
  · cases h
  · split at h
    · cases h
    · rename_i hr
      split at h
      · cases h; exact ⟨rfl, hr, Nat.le_refl _⟩
      · unfold Io.and ioFlush at h
        have hfp := flush_pend D
        by_cases hf : D.flush.2 = 0
        · simp only [hf, if_true] at h
          cases h
          exact ⟨rfl, hr, hfp⟩
        · simp only [hf, if_false] at h
          cases h
theorem Dev.ok.n_le {D : Dev} (h : D.ok) : D.n ≤ 4096 := by obtain ⟨n, a, b, c⟩ := h.img; unfold Dev.n; omega
end Go.Le
namespace Go.Proofs.Ytpaebopmppbjbaa
open Go Go.RowKit Go.Le

set_option maxRecDepth 20000 in
set_option maxHeartbeats 8000000 in
/-- Clear's closure, from its last statement on -/
theorem Clear1_any (wb w0 : World) (R : HP) (g bd : Nat) (D : Dev) (h : Mem wb w0 (devAt T8 g D * (pts bd 41 [.pointer (some ⟨g, 0, none⟩)] * R))) (hpl : D.pend.length ≤ 700000000) :
    Calls Try.prog 24 #[.pointer (some ⟨bd, 0, none⟩)] w0 (IoSays wb g (pts bd 41 [.pointer (some ⟨g, 0, none⟩)] * R) (ioClear D) unitB) := by
  have q0 := h.p1.cell 0
  simp only [List.getElem?_cons_zero] at q0
  have HBE0 := hid (begun_any wb w0 _ g D h (by omega))
  obtain ⟨rb, HRB⟩ : ∃ r, Hid (ioBegun D = r) := ⟨_, hid rfl⟩
  rw [HRB.out] at HBE0
  clear h
  rcases rb with ⟨e1 | p, D1⟩
  · have HBE : Hid (ioClear D = (.error e1, D1)) := hid (Io.and_error HRB.out)
    clear HRB
    go_enter Try.func24, Try.ntmps24
    go_wp2_with fail
    refine HBE0.out.mono ?_
    intro e w2 hs'
    obtain ⟨rfl, hc, hm2⟩ := hs'.error rfl
    dsimp only
    exact ⟨rfl, IoSays.mkError HBE.out hc hm2⟩
  · obtain ⟨hpe, hpr, hp1⟩ := begun_ok HRB.out
    have hp250 : p ≤ 250 := by rw [hpe]; exact room_le _
    have hpge : 1 ≤ p := by rw [hpe]; exact (room_need hpr).1
    have HB1 : Hid (ioClear D = ((ioRead 0).and fun m => (if m.getD 511 0 = 0 then Io.ret () else ioFalls m).and fun _ => ioN.and fun s => ioWiped (runOf 0 (2 * p + 1) ++ runOf (4 * p + 1) s)) D1) := hid (Io.and_ok HRB.out)
    have hpl1 : D1.pend.length ≤ 700000000 := by omega
    clear HRB hpe hp1 hpr
    go_enter Try.func24, Try.ntmps24
    go_wp2_with fail
    refine HBE0.out.mono ?_
    intro e w2 hs'
    obtain ⟨v, rfl, hm2⟩ := hs'.ok rfl
    unfold diskB at hm2
    rw [Mem.pur] at hm2
    obtain ⟨rfl, hm3⟩ := hm2
    dsimp only
    have hmA := hm3.alloc [.pointer (some ⟨g, 0, none⟩), .int .i64 (p : Int)] 54
    have HBX : Hid (∀ w' R', Mem wb w' (pts w2.heap.size 54 [.pointer (some ⟨g, 0, none⟩), .int .i64 (p : Int)] * R') → w'.cell? ⟨w2.heap.size, 0, none⟩ = some (.pointer (some ⟨g, 0, none⟩)) ∧ w'.cell? ⟨w2.heap.size, 1, none⟩ = some (.int .i64 (p : Int))) := fun w' R' h => ⟨h.cell 0, h.cell 1⟩
    have HRD := hid (dread_any wb _ _ g D1 hmA.p1 (by omega) 0 (by omega) (p : Int))
    obtain ⟨hok1, -⟩ := Mem.devAt.1 hm3
    have HOK := hid hok1
    obtain ⟨rr, HRR⟩ : ∃ r, Hid (ioRead 0 D1 = r) := ⟨_, hid rfl⟩
    rw [HRR.out] at HRD
    clear hm3 hmA hs' HBE0 hok1
    rcases rr with ⟨e2 | m, Dx⟩
    · have HBE : Hid (ioClear D = (.error e2, Dx)) := by
        show _ = _
        rw [HB1.out]
        exact Io.and_error HRR.out
      clear HRR HB1
      go_wp2_with fail
      refine HRD.out.mono ?_
      intro e w3 hs'
      obtain ⟨rfl, hc, hm2⟩ := hs'.error rfl
      dsimp only
      exact ⟨rfl, IoSays.mkError HBE.out hc hm2.p1.right⟩
    · obtain rfl : Dx = D1 := read_same HRR.out
      have HML := hid (read_len HOK.out HRR.out)
      have HB2 : Hid (ioClear D = ((if m.getD 511 0 = 0 then Io.ret () else ioFalls m).and fun _ => ioN.and fun s => ioWiped (runOf 0 (2 * p + 1) ++ runOf (4 * p + 1) s)) Dx) := by
        show _ = _
        rw [HB1.out]
        exact Io.and_ok HRR.out
      clear HRR HB1
      go_wp2_with fail
      refine HRD.out.mono ?_
      intro e w3 hs'
      obtain ⟨v, rfl, hm2⟩ := hs'.ok rfl
      unfold bytesB at hm2
      rw [HML.out] at hm2
      obtain ⟨am, cm, rfl, hm3⟩ := Mem.rowB.1 hm2
      dsimp only
      have hsl := hm3.row_sl
      obtain ⟨b, o, rfl⟩ := hsl.addr (by omega)
      have hc1 := hsl.at 511 (by omega)
      have hle := hsl.le
      have hcap := hsl.cap
      have e3 : (byts m)[511]'(by rw [byts_length, HML.out]; omega) = .int .u8 (((m.getD 511 0).toNat : Nat) : Int) := by
        simp [byts, byt, List.getD, List.getElem?_eq_getElem (show 511 < m.length by rw [HML.out]; omega)]
      rw [e3] at hc1
      obtain ⟨q0, q1⟩ := HBX.out _ _ (hm3.eq (by ac_rfl) : Mem wb w3 (pts w2.heap.size 54 [.pointer (some ⟨g, 0, none⟩), .int .i64 (p : Int)] * (row 5 1 (some ⟨b, o, none⟩) 512 cm (byts m) * (devAt T8 g Dx * (pts bd 41 [.pointer (some ⟨g, 0, none⟩)] * R)))))
      have HFA := hid (falls_any wb w3 _ g Dx (some ⟨b, o, none⟩) cm m HML.out (hm3.p1) (by omega) (p : Int))
      have x0 : m.getD 511 0 = 0 ∨ (((m.getD 511 0).toNat : Int) != 0) = true := by
        by_cases hx : m.getD 511 0 = 0
        · exact .inl hx
        · right
          rw [byt_zero]
          simpa using hx
      have HM3 := hid hm3
      clear hm2 hm3 hsl e3 hs' HRD
      have HBC : Hid (ioClear D = ((if m.getD 511 0 = 0 then Io.ret () else ioFalls m).and fun _ => ioN.and fun s => ioWiped (runOf 0 (2 * p + 1) ++ runOf (4 * p + 1) s)) Dx) := HB2
      clear HB2
      generalize m.getD 511 0 = xx at *
      rcases x0 with hx | hx
      focus
        have HB3 : Hid (ioClear D = (ioN.and fun s => ioWiped (runOf 0 (2 * p + 1) ++ runOf (4 * p + 1) s)) Dx) := by
          show _ = _
          rw [HBC.out, if_pos hx]
          rfl
        rw [hx, show ((0 : UInt8).toNat : Int) = 0 from rfl] at hc1
        obtain ⟨R1, HR1⟩ : ∃ R1, Hid (R1 = row 5 1 (some ⟨b, o, none⟩) 512 cm (byts m) * R) := ⟨_, hid rfl⟩
        have HDROP : Hid (∀ w' A, Mem wb w' (A * R1) → Mem wb w' (A * R)) := by
          show ∀ w' A, _
          intro w' A hm
          rw [HR1.out] at hm
          exact hm.p1.right
        have HM := hid (HM3.out.eq (by rw [HR1.out]; ac_rfl) : Mem wb w3 (devAt T8 g Dx * (pts w2.heap.size 54 [.pointer (some ⟨g, 0, none⟩), .int .i64 (p : Int)] * (pts bd 41 [.pointer (some ⟨g, 0, none⟩)] * R1))))
        have HPL2 : Hid (Dx.pend.length ≤ 800000000) := by show _ ≤ _; omega
        clear HBC HM3 HFA hx HML
        obtain ⟨wz, hwz⟩ : ∃ wz, wz = w3 := ⟨_, rfl⟩
        subst hwz
        obtain ⟨Dz, hDz⟩ : ∃ Dz, Dz = Dx := ⟨_, rfl⟩
        subst hDz
        go_wp2_with fail
      rotate_left
      focus
        have hx0 : xx ≠ 0 := by
          intro h0
          rw [h0] at hx
          simp at hx
        have HB2 : Hid (ioClear D = ((ioFalls m).and fun _ => ioN.and fun s => ioWiped (runOf 0 (2 * p + 1) ++ runOf (4 * p + 1) s)) Dx) := by
          show _ = _
          rw [HBC.out, if_neg hx0]
        obtain ⟨ra, HRA⟩ : ∃ r, Hid (ioFalls m Dx = r) := ⟨_, hid rfl⟩
        have HG : Hid (ra.2.pend.length ≤ Dx.pend.length + 1) := by rw [← HRA.out]; exact hid (Io.Grows.falls m Dx)
        rw [HRA.out] at HFA
        clear HBC HM3 hx0
        go_wp2_with fail
        refine HFA.out.mono ?_
        intro e w5 hs'
        rcases ra with ⟨e3 | u3, D2⟩
        · have HBE : Hid (ioClear D = (.error e3, D2)) := by
            show _ = _
            rw [HB2.out]
            exact Io.and_error HRA.out
          obtain ⟨rfl, hc, hm2⟩ := hs'.error rfl
          dsimp only
          exact ⟨rfl, IoSays.mkError HBE.out hc (hm2.eq (by ac_rfl) : Mem wb w5 (row 5 1 (some ⟨b, o, none⟩) 512 cm (byts (m.set 511 0)) * (pts w2.heap.size 54 [.pointer (some ⟨g, 0, none⟩), .int .i64 (p : Int)] * (devAt T8 g D2 * (pts bd 41 [.pointer (some ⟨g, 0, none⟩)] * R))))).right.right⟩
        have HB3 : Hid (ioClear D = (ioN.and fun s => ioWiped (runOf 0 (2 * p + 1) ++ runOf (4 * p + 1) s)) D2) := by
          show _ = _
          rw [HB2.out]
          exact Io.and_ok HRA.out
        obtain ⟨rfl, hm2⟩ := hs'.unit rfl
        dsimp only
        obtain ⟨R1, HR1⟩ : ∃ R1, Hid (R1 = row 5 1 (some ⟨b, o, none⟩) 512 cm (byts (m.set 511 0)) * R) := ⟨_, hid rfl⟩
        have HDROP : Hid (∀ w' A, Mem wb w' (A * R1) → Mem wb w' (A * R)) := by
          show ∀ w' A, _
          intro w' A hm
          rw [HR1.out] at hm
          exact hm.p1.right
        have HM := hid (hm2.eq (by rw [HR1.out]; ac_rfl) : Mem wb w5 (devAt T8 g D2 * (pts w2.heap.size 54 [.pointer (some ⟨g, 0, none⟩), .int .i64 (p : Int)] * (pts bd 41 [.pointer (some ⟨g, 0, none⟩)] * R1))))
        have HPL2 : Hid (D2.pend.length ≤ 800000000) := by show _ ≤ _; have h2 : D2.pend.length ≤ Dx.pend.length + 1 := HG.out; omega
        clear hs' HB2 HRA HG HFA HML hx hc1 hm2
        obtain ⟨q0, q1⟩ := HBX.out _ _ HM.out.right
        obtain ⟨wz, hwz⟩ : ∃ wz, wz = w5 := ⟨_, rfl⟩
        subst hwz
        obtain ⟨Dz, hDz⟩ : ∃ Dz, Dz = D2 := ⟨_, rfl⟩
        subst hDz
        go_wp2_with fail
      all_goals
        clear HOK hle hcap
        obtain ⟨hokz, -⟩ := Mem.devAt.1 HM.out
        have hnz := Dev.ok.n_le hokz
        have HB4 : Hid (ioClear D = ioWiped ((runOf 0 (2 * p + 1)) ++ (runOf (4 * p + 1) Dz.n)) Dz) := by
          show _ = _
          rw [HB3.out]
          rfl
        obtain ⟨s, hs⟩ : ∃ s, s = Dz.n := ⟨_, rfl⟩
        rw [← hs] at HB4 hnz
        have FIN : Hid (∀ w' c D', ioClear D = (.error c, D') → c ≠ 0 → Mem wb w' (devAt T8 g D' * (pts bd 41 [.pointer (some ⟨g, 0, none⟩)] * R1)) → IoSays wb g (pts bd 41 [.pointer (some ⟨g, 0, none⟩)] * R) (ioClear D) unitB (.panicked [errP 45 c]) w') := by
          show ∀ w' c D', _
          intro w' c D' hb hc hm
          exact IoSays.mkError hb hc ((HDROP.out w' (devAt T8 g D' * pts bd 41 [.pointer (some ⟨g, 0, none⟩)]) (hm.eq (by ac_rfl))).eq (by ac_rfl))
        have HLG : Hid (∀ w R', Mem wb w R' → Calls Try.prog 22 #[(.agg #[.pointer (some ⟨g, 0, none⟩), .int .i64 (p : Int)])] w fun e w' => ∃ a c, e = .returned (.slice a (runOf 0 (2 * p + 1)).length c) ∧ Mem wb w' (row 3 1 a (runOf 0 (2 * p + 1)).length c (nums (runOf 0 (2 * p + 1))) * R')) := by
          show ∀ w R', _
          intro w R' h
          have := log_any wb w R' h (.pointer (some ⟨g, 0, none⟩)) p hp250
          rw [runOf_length]
          exact this
        have HNE : Hid (∀ w, Calls Try.prog 11 #[.int .i64 (p : Int)] w fun e w' => e = .returned (.int .i64 (4 * (p : Int) + 1)) ∧ w = w') := by
          show ∀ w, _
          intro w
          have := Need_any w (p : Int)
          unfold needOf at this
          rw [if_neg (by omega)] at this
          exact this
        have HSE : Hid (∀ w R', Mem wb w (devAt T8 g Dz * R') → Calls Try.prog 28 #[.pointer (some ⟨g, 0, none⟩)] w fun e w' => e = .returned (.int .i64 (s : Int)) ∧ w = w') := by
          show ∀ w R', _
          intro w R' h
          rw [hs]
          exact Sectors_dev wb w R' g Dz h
        have HRU : Hid (∀ w R', Mem wb w R' → Calls Try.prog 27 #[.int .i64 (4 * (p : Int) + 1), .int .i64 (s : Int)] w fun e w' => ∃ a c, e = .returned (.slice a (runOf (4 * p + 1) s).length c) ∧ Mem wb w' (row 3 1 a (runOf (4 * p + 1) s).length c (nums (runOf (4 * p + 1) s)) * R')) := by
          show ∀ w R', _
          intro w R' h
          have := run_any wb w R' h (4 * p + 1) s (by omega)
          rw [runOf_length]
          rw [show ((4 * p + 1 : Nat) : Int) = 4 * (p : Int) + 1 by omega] at this
          exact this
        have HWI : Hid (∀ w R' a c, Mem wb w (devAt T8 g Dz * R') → (∀ w', Mem wb w' R' → Sl w' a ((runOf 0 (2 * p + 1)) ++ (runOf (4 * p + 1) s)).length c (nums ((runOf 0 (2 * p + 1)) ++ (runOf (4 * p + 1) s)))) → Calls Try.prog 21 #[(.agg #[.pointer (some ⟨g, 0, none⟩), .int .i64 (p : Int)]), .slice a ((runOf 0 (2 * p + 1)) ++ (runOf (4 * p + 1) s)).length c] w (IoSays wb g R' (ioWiped ((runOf 0 (2 * p + 1)) ++ (runOf (4 * p + 1) s)) Dz) unitB)) := by
          show ∀ w R' a c, _
          intro w R' a c h hs
          have := HPL2.out
          exact wiped_any wb w R' g Dz h _ a _ c _ (by rw [List.length_append, runOf_length, runOf_length]; omega) (by omega) hs (fun x hx => by
            rcases List.mem_append.1 hx with hx | hx
            · have := runOf_le _ _ x hx; omega
            · have := runOf_le _ _ x hx; omega)
        obtain ⟨rw3, HRW⟩ : ∃ r, Hid (ioWiped ((runOf 0 (2 * p + 1)) ++ (runOf (4 * p + 1) s)) Dz = r) := ⟨_, hid rfl⟩
        rw [HRW.out] at HWI
        have HIO : Hid (ioClear D = rw3) := hid (HB4.out.trans HRW.out)
        obtain ⟨i0, hi0, hz0, hz1, hz3⟩ := info_parts i64info
        clear HB3 HB4 HRW HBX hokz hs
        rcases rw3 with ⟨e3 | u3, D3⟩
        · have HBE : Hid (ioClear D = (.error e3, D3)) := HIO
          refine region_mem (by kernel_rfl) (V := fun jv x => match jv with | 0 => x = (.agg #[.pointer (some ⟨g, 0, none⟩), .int .i64 (p : Int)] : Value) | 1 => x = (.agg #[.pointer (some ⟨g, 0, none⟩), .int .i64 (p : Int)] : Value) | 2 => ∃ a5 c5, x = (.slice a5 (runOf 0 (2 * p + 1)).length c5 : Value) | 3 => x = (.pointer (some ⟨w2.heap.size, 1, none⟩) : Value) | 4 => x = (.int .i64 (p : Int) : Value) | 5 => x = (.int .i64 (4 * (p : Int) + 1) : Value) | 6 => x = (.pointer (some ⟨g, 0, none⟩) : Value) | 7 => x = (.int .i64 (s : Int) : Value) | 8 => ∃ a5 c5, x = (.slice a5 (runOf (4 * p + 1) s).length c5 : Value) | 9 => ∃ a5 c5, x = (.slice a5 ((runOf 0 (2 * p + 1)) ++ (runOf (4 * p + 1) s)).length c5 : Value) | 10 => False | _ => True) (A := (fun L => (if L 10 then devAt T8 g D3 else devAt T8 g Dz) * (pts w2.heap.size 54 [.pointer (some ⟨g, 0, none⟩), .int .i64 (p : Int)] * (pts bd 41 [.pointer (some ⟨g, 0, none⟩)] * R1)))) (Bs := [(2, some 9, numsB (runOf 0 (2 * p + 1))), (8, none, numsB (runOf (4 * p + 1) s)), (9, none, numsB ((runOf 0 (2 * p + 1)) ++ (runOf (4 * p + 1) s)))]) HM.out (fun L L' h => by show (if L 10 then _ else _) * _ = (if L' 10 then _ else _) * _; rw [h 10 (by decide)]) (show ([2, 8, 9] : List Nat).Nodup by decide) (by kernel_rfl) (by kernel_rfl) ?_ ?_
          · refine ⟨?_, ?_, ?_, ?_, ?_, ?_, ?_, ?_, ?_, ?_, ?_, trivial⟩
            · refine Fine2.run trivial _ rfl (fun _ => rfl) rfl rfl (fun L a w R' hw hm hmk hf => ?_)
              have e1 : a.eval (.tmp 1) = (.pointer (some ⟨w2.heap.size, 0, none⟩) : Value) := (hf 1 (by decide +kernel)).old (by kernel_rfl)
              simp only [Act.eval, Array.getD_eq_getD_getElem?] at e1
              have hbx := hm.left.right
              have q0 := hbx.cell 0
              have q1 := hbx.cell 1
              simp only [List.getElem?_cons_zero, List.getElem?_cons_succ] at q0 q1
              simp [execOp, resolve, invoke, builtin, go_sem, e1, q0, q1]
            · refine Fine2.run trivial _ rfl (fun _ => rfl) rfl rfl (fun L a w R' hw hm hmk hf => ?_)
              have e1 : a.eval (.tmp 1) = (.pointer (some ⟨w2.heap.size, 0, none⟩) : Value) := (hf 1 (by decide +kernel)).old (by kernel_rfl)
              simp only [Act.eval, Array.getD_eq_getD_getElem?] at e1
              have hbx := hm.left.right
              have q0 := hbx.cell 0
              have q1 := hbx.cell 1
              simp only [List.getElem?_cons_zero, List.getElem?_cons_succ] at q0 q1
              simp [execOp, resolve, invoke, builtin, go_sem, e1, q0, q1]
            · refine Fine2.call trivial rfl 22 #[(.agg #[.pointer (some ⟨g, 0, none⟩), .int .i64 (p : Int)])] (fun a w hf => ?_) (fun L a w R' hL hw hm hmk hf => ?_)
              · have e15 : a.eval (.tmp 15) = (.agg #[.pointer (some ⟨g, 0, none⟩), .int .i64 (p : Int)] : Value) := (hf 15 (by decide +kernel)).new 1 (by kernel_rfl) (by kernel_rfl)
                simp only [Act.eval, Array.getD_eq_getD_getElem?] at e15
                simp [execOp, resolve, invoke, go_sem, e15]
              · refine (HLG.out w _ hm).mono ?_
                rintro e w' ⟨a5, c5, rfl, hm2⟩
                refine ⟨_, rfl, ⟨a5, c5, rfl⟩, ?_⟩
                have hm4 : Mem wb w' (numsB (runOf 0 (2 * p + 1)) (.slice a5 (runOf 0 (2 * p + 1)).length c5) * ((if L 10 then devAt T8 g D3 else devAt T8 g Dz) * (pts w2.heap.size 54 [.pointer (some ⟨g, 0, none⟩), .int .i64 (p : Int)] * (pts bd 41 [.pointer (some ⟨g, 0, none⟩)] * R1)) * R')) := by unfold numsB; exact Mem.rowB.2 ⟨a5, c5, rfl, hm2⟩
                show Mem wb w' ((if doneSet L 2 10 then devAt T8 g D3 else devAt T8 g Dz) * (pts w2.heap.size 54 [.pointer (some ⟨g, 0, none⟩), .int .i64 (p : Int)] * (pts bd 41 [.pointer (some ⟨g, 0, none⟩)] * R1)) * (numsB (runOf 0 (2 * p + 1)) (.slice a5 (runOf 0 (2 * p + 1)).length c5) * R'))
                rw [show doneSet L 2 10 = L 10 from rfl]
                exact hm4.eq (by ac_rfl)
            · refine Fine2.run trivial _ rfl (fun _ => rfl) rfl rfl (fun L a w R' hw hm hmk hf => ?_)
              have e1 : a.eval (.tmp 1) = (.pointer (some ⟨w2.heap.size, 0, none⟩) : Value) := (hf 1 (by decide +kernel)).old (by kernel_rfl)
              simp only [Act.eval, Array.getD_eq_getD_getElem?] at e1
              simp [execOp, resolve, invoke, builtin, go_sem, e1]
            · refine Fine2.run trivial _ rfl (fun _ => rfl) rfl rfl (fun L a w R' hw hm hmk hf => ?_)
              have e17 : a.eval (.tmp 17) = (.pointer (some ⟨w2.heap.size, 1, none⟩) : Value) := (hf 17 (by decide +kernel)).new 3 (by kernel_rfl) (by kernel_rfl)
              simp only [Act.eval, Array.getD_eq_getD_getElem?] at e17
              have hbx := hm.left.right
              have q0 := hbx.cell 0
              have q1 := hbx.cell 1
              simp only [List.getElem?_cons_zero, List.getElem?_cons_succ] at q0 q1
              simp [execOp, resolve, invoke, builtin, go_sem, e17, q0, q1]
            · refine Fine2.call trivial rfl 11 #[.int .i64 (p : Int)] (fun a w hf => ?_) (fun L a w R' hL hw hm hmk hf => ?_)
              · have e18 : a.eval (.tmp 18) = (.int .i64 (p : Int) : Value) := (hf 18 (by decide +kernel)).new 4 (by kernel_rfl) (by kernel_rfl)
                simp only [Act.eval, Array.getD_eq_getD_getElem?] at e18
                simp [execOp, resolve, invoke, go_sem, e18]
              · refine (HNE.out w).mono ?_
                rintro e w' ⟨rfl, rfl⟩
                refine ⟨_, rfl, rfl, ?_⟩
                show Mem wb w ((if doneSet L 5 10 then devAt T8 g D3 else devAt T8 g Dz) * (pts w2.heap.size 54 [.pointer (some ⟨g, 0, none⟩), .int .i64 (p : Int)] * (pts bd 41 [.pointer (some ⟨g, 0, none⟩)] * R1)) * (emp * R'))
                rw [show doneSet L 5 10 = L 10 from rfl, emp_sep]
                exact hm
            · refine Fine2.run trivial _ rfl (fun _ => rfl) rfl rfl (fun L a w R' hw hm hmk hf => ?_)
              have e0 : a.eval (.tmp 0) = (.pointer (some ⟨bd, 0, none⟩) : Value) := (hf 0 (by decide +kernel)).old (by kernel_rfl)
              simp only [Act.eval, Array.getD_eq_getD_getElem?] at e0
              have hbx := hm.left.right.right
              have q0 := hbx.cell 0
              simp only [List.getElem?_cons_zero] at q0
              simp [execOp, resolve, invoke, builtin, go_sem, e0, q0]
            · refine Fine2.callP trivial rfl 28 #[.pointer (some ⟨g, 0, none⟩)] (fun a w hf => ?_) (fun L a w R' hL hw hm hmk hf hdf hcl => ?_)
              · have e20 : a.eval (.tmp 20) = (.pointer (some ⟨g, 0, none⟩) : Value) := (hf 20 (by decide +kernel)).new 6 (by kernel_rfl) (by kernel_rfl)
                simp only [Act.eval, Array.getD_eq_getD_getElem?] at e20
                simp [execOp, resolve, invoke, go_sem, e20]
              · have hm : Mem wb w ((if L 10 then devAt T8 g D3 else devAt T8 g Dz) * (pts w2.heap.size 54 [.pointer (some ⟨g, 0, none⟩), .int .i64 (p : Int)] * (pts bd 41 [.pointer (some ⟨g, 0, none⟩)] * R1)) * R') := hm
                have hL10 : L 10 = false := not_done hcl (not_done hcl (not_done hcl hL 8 _ rfl (by kernel_rfl)) 9 _ rfl (by kernel_rfl)) 10 _ rfl (by kernel_rfl)
                refine (HSE.out w ((pts w2.heap.size 54 [.pointer (some ⟨g, 0, none⟩), .int .i64 (p : Int)] * (pts bd 41 [.pointer (some ⟨g, 0, none⟩)] * R1)) * R') (by rw [hL10] at hm; exact hm.eq (by show devAt T8 g Dz * (pts w2.heap.size 54 [.pointer (some ⟨g, 0, none⟩), .int .i64 (p : Int)] * (pts bd 41 [.pointer (some ⟨g, 0, none⟩)] * R1)) * R' = _; ac_rfl))).mono ?_
                rintro e w' ⟨rfl, rfl⟩
                refine .inl ⟨_, rfl, rfl, ?_⟩
                show Mem wb w ((if doneSet L 7 10 then devAt T8 g D3 else devAt T8 g Dz) * (pts w2.heap.size 54 [.pointer (some ⟨g, 0, none⟩), .int .i64 (p : Int)] * (pts bd 41 [.pointer (some ⟨g, 0, none⟩)] * R1)) * (emp * R'))
                rw [show doneSet L 7 10 = L 10 from rfl, emp_sep]
                exact hm
            · refine Fine2.call trivial rfl 27 #[.int .i64 (4 * (p : Int) + 1), .int .i64 (s : Int)] (fun a w hf => ?_) (fun L a w R' hL hw hm hmk hf => ?_)
              · have e19 : a.eval (.tmp 19) = (.int .i64 (4 * (p : Int) + 1) : Value) := (hf 19 (by decide +kernel)).new 5 (by kernel_rfl) (by kernel_rfl)
                have e21 : a.eval (.tmp 21) = (.int .i64 (s : Int) : Value) := (hf 21 (by decide +kernel)).new 7 (by kernel_rfl) (by kernel_rfl)
                simp only [Act.eval, Array.getD_eq_getD_getElem?] at e19 e21
                simp [execOp, resolve, invoke, go_sem, e19, e21]
              · refine (HRU.out w _ hm).mono ?_
                rintro e w' ⟨a5, c5, rfl, hm2⟩
                refine ⟨_, rfl, ⟨a5, c5, rfl⟩, ?_⟩
                have hm4 : Mem wb w' (numsB (runOf (4 * p + 1) s) (.slice a5 (runOf (4 * p + 1) s).length c5) * ((if L 10 then devAt T8 g D3 else devAt T8 g Dz) * (pts w2.heap.size 54 [.pointer (some ⟨g, 0, none⟩), .int .i64 (p : Int)] * (pts bd 41 [.pointer (some ⟨g, 0, none⟩)] * R1)) * R')) := by unfold numsB; exact Mem.rowB.2 ⟨a5, c5, rfl, hm2⟩
                show Mem wb w' ((if doneSet L 8 10 then devAt T8 g D3 else devAt T8 g Dz) * (pts w2.heap.size 54 [.pointer (some ⟨g, 0, none⟩), .int .i64 (p : Int)] * (pts bd 41 [.pointer (some ⟨g, 0, none⟩)] * R1)) * (numsB (runOf (4 * p + 1) s) (.slice a5 (runOf (4 * p + 1) s).length c5) * R'))
                rw [show doneSet L 8 10 = L 10 from rfl]
                exact hm4.eq (by ac_rfl)
            · refine Fine2.open trivial (fun L a w R' hL hw hm hmk hf => ?_)
              have hm' : Mem wb w ((if L 10 then devAt T8 g D3 else devAt T8 g Dz) * (pts w2.heap.size 54 [.pointer (some ⟨g, 0, none⟩), .int .i64 (p : Int)] * (pts bd 41 [.pointer (some ⟨g, 0, none⟩)] * R1)) * ((numsB (runOf 0 (2 * p + 1)) (a.eval (.tmp 16)) * (emp * (emp * emp))) * R')) := hm
              rw [sep_emp, sep_emp, sep_emp] at hm'
              obtain ⟨a1, c1, e16, m1⟩ := Mem.rowB.1 hm'.p1
              obtain ⟨R3, hR3⟩ := hmk [false, true, false] (by kernel_rfl)
              have hm2 := m1
              rw [hR3] at hm2
              obtain ⟨a2, c2, y, m2⟩ := Mem.rowB.1 (show Mem wb w (_ * (_ * (_ * R3))) from hm2).p2
              have e22 : a.eval (.tmp 22) = .slice a2 _ c2 := y
              have hsl := m2.row_sl
              obtain ⟨a3, c3, w', hr, hd, -, -⟩ := m1.append (P := Try.prog) 57 57 Try.underlying57 hi0 hz0 hz1 hz3 rfl (by omega) (by rw [nums_length]; omega) (news_sl hsl) (news_nil hsl) (nums_one _) (by rw [runOf_length, runOf_length]; omega) (by rw [runOf_length, runOf_length]; omega)
              rw [← nums_append, ← List.length_append] at hd
              rw [← List.length_append] at hr
              refine ⟨.slice a3 ((runOf 0 (2 * p + 1)) ++ (runOf (4 * p + 1) s)).length c3, w', ?_, ⟨a3, c3, rfl⟩, ?_⟩
              · have e16 : a.eval (.tmp 16) = .slice a1 (runOf 0 (2 * p + 1)).length c1 := e16
                have e22 : a.eval (.tmp 22) = .slice a2 (runOf (4 * p + 1) s).length c2 := e22
                simp [execOp, resolve, invoke, builtin, e16, e22, hr, Result.andThen]
              · show Mem wb w' ((if doneSet L 9 10 then devAt T8 g D3 else devAt T8 g Dz) * (pts w2.heap.size 54 [.pointer (some ⟨g, 0, none⟩), .int .i64 (p : Int)] * (pts bd 41 [.pointer (some ⟨g, 0, none⟩)] * R1)) * (numsB ((runOf 0 (2 * p + 1)) ++ (runOf (4 * p + 1) s)) (.slice a3 ((runOf 0 (2 * p + 1)) ++ (runOf (4 * p + 1) s)).length c3) * R'))
                rw [show doneSet L 9 10 = L 10 from rfl]
                have h9 : Mem wb w' (numsB ((runOf 0 (2 * p + 1)) ++ (runOf (4 * p + 1) s)) (.slice a3 ((runOf 0 (2 * p + 1)) ++ (runOf (4 * p + 1) s)).length c3) * ((if L 10 then devAt T8 g D3 else devAt T8 g Dz) * (pts w2.heap.size 54 [.pointer (some ⟨g, 0, none⟩), .int .i64 (p : Int)] * (pts bd 41 [.pointer (some ⟨g, 0, none⟩)] * R1)) * R')) := by unfold numsB; exact Mem.rowB.2 ⟨a3, c3, rfl, hd.duo_row⟩
                exact h9.eq (by ac_rfl)
            · refine .inl ⟨trivial, fun L a w Kq Rq hL hw hm hmk hf hdf hcl hK => ?_⟩
              rw [eaten_none rfl, emp_sep] at hm
              obtain ⟨R3, hR3⟩ := hmk [false, false, true] (by kernel_rfl)
              have hm : Mem wb w ((if L 10 then devAt T8 g D3 else devAt T8 g Dz) * (pts w2.heap.size 54 [.pointer (some ⟨g, 0, none⟩), .int .i64 (p : Int)] * (pts bd 41 [.pointer (some ⟨g, 0, none⟩)] * R1)) * Rq) := hm
              rw [hL] at hm
              have hm : Mem wb w (devAt T8 g Dz * (pts w2.heap.size 54 [.pointer (some ⟨g, 0, none⟩), .int .i64 (p : Int)] * (pts bd 41 [.pointer (some ⟨g, 0, none⟩)] * R1)) * Rq) := hm
              have hm' := hm
              rw [hR3] at hm'
              obtain ⟨a5, c5, y, m1⟩ := Mem.rowB.1 (show Mem wb w (_ * (_ * R3)) from hm').p1
              have e23 : a.eval (.tmp 23) = .slice a5 _ c5 := y
              have e14 : a.eval (.tmp 14) = (.agg #[.pointer (some ⟨g, 0, none⟩), .int .i64 (p : Int)] : Value) := (hf 14 (by decide +kernel)).new 0 (by kernel_rfl) (by kernel_rfl)
              simp only [Act.eval, Array.getD_eq_getD_getElem?] at e14 e23
              unfold Oper.wp
              rw [show (execOp a.eval _).run Try.prog w = .ok (.enter 21 #[(.agg #[.pointer (some ⟨g, 0, none⟩), .int .i64 (p : Int)]), .slice a5 ((runOf 0 (2 * p + 1)) ++ (runOf (4 * p + 1) s)).length c5]) w from by simp only [execOp, resolve, invoke, go_sem]; simp [go_sem, e14, e23]]
              refine (HWI.out w ((pts w2.heap.size 54 [.pointer (some ⟨g, 0, none⟩), .int .i64 (p : Int)] * (pts bd 41 [.pointer (some ⟨g, 0, none⟩)] * R1)) * Rq) a5 c5 (hm.eq (by ac_rfl)) (fun w' h' => ?_)).mono ?_
              · rw [hR3] at h'
                obtain ⟨a6, c6, y2, m2⟩ := Mem.rowB.1 (show Mem wb w' (_ * (_ * R3)) from h').p1
                rw [y] at y2
                simp only [Value.slice.injEq] at y2
                obtain ⟨rfl, -, rfl⟩ := y2
                exact m2.row_sl
              intro e w' hs'
              obtain ⟨rfl, hc, hm2⟩ := hs'.error rfl
              exact ⟨hdf, FIN.out _ _ _ HBE.out hc (hm2.eq (by ac_rfl) : Mem wb w' (pts w2.heap.size 54 [.pointer (some ⟨g, 0, none⟩), .int .i64 (p : Int)] * (Rq * (devAt T8 g D3 * (pts bd 41 [.pointer (some ⟨g, 0, none⟩)] * R1))))).right.right⟩
          · intro u w9 hu hm9
            exact absurd (hu 24 10 rfl) (fun h => h)
        · have HBE : Hid (ioClear D = (.ok u3, D3)) := HIO
          refine region_mem (by kernel_rfl) (V := fun jv x => match jv with | 0 => x = (.agg #[.pointer (some ⟨g, 0, none⟩), .int .i64 (p : Int)] : Value) | 1 => x = (.agg #[.pointer (some ⟨g, 0, none⟩), .int .i64 (p : Int)] : Value) | 2 => ∃ a5 c5, x = (.slice a5 (runOf 0 (2 * p + 1)).length c5 : Value) | 3 => x = (.pointer (some ⟨w2.heap.size, 1, none⟩) : Value) | 4 => x = (.int .i64 (p : Int) : Value) | 5 => x = (.int .i64 (4 * (p : Int) + 1) : Value) | 6 => x = (.pointer (some ⟨g, 0, none⟩) : Value) | 7 => x = (.int .i64 (s : Int) : Value) | 8 => ∃ a5 c5, x = (.slice a5 (runOf (4 * p + 1) s).length c5 : Value) | 9 => ∃ a5 c5, x = (.slice a5 ((runOf 0 (2 * p + 1)) ++ (runOf (4 * p + 1) s)).length c5 : Value) | 10 => x = (.tuple #[] : Value) | _ => True) (A := (fun L => (if L 10 then devAt T8 g D3 else devAt T8 g Dz) * (pts w2.heap.size 54 [.pointer (some ⟨g, 0, none⟩), .int .i64 (p : Int)] * (pts bd 41 [.pointer (some ⟨g, 0, none⟩)] * R1)))) (Bs := [(2, some 9, numsB (runOf 0 (2 * p + 1))), (8, none, numsB (runOf (4 * p + 1) s)), (9, none, numsB ((runOf 0 (2 * p + 1)) ++ (runOf (4 * p + 1) s)))]) HM.out (fun L L' h => by show (if L 10 then _ else _) * _ = (if L' 10 then _ else _) * _; rw [h 10 (by decide)]) (show ([2, 8, 9] : List Nat).Nodup by decide) (by kernel_rfl) (by kernel_rfl) ?_ ?_
          · refine ⟨?_, ?_, ?_, ?_, ?_, ?_, ?_, ?_, ?_, ?_, ?_, trivial⟩
            · refine Fine2.run trivial _ rfl (fun _ => rfl) rfl rfl (fun L a w R' hw hm hmk hf => ?_)
              have e1 : a.eval (.tmp 1) = (.pointer (some ⟨w2.heap.size, 0, none⟩) : Value) := (hf 1 (by decide +kernel)).old (by kernel_rfl)
              simp only [Act.eval, Array.getD_eq_getD_getElem?] at e1
              have hbx := hm.left.right
              have q0 := hbx.cell 0
              have q1 := hbx.cell 1
              simp only [List.getElem?_cons_zero, List.getElem?_cons_succ] at q0 q1
              simp [execOp, resolve, invoke, builtin, go_sem, e1, q0, q1]
            · refine Fine2.run trivial _ rfl (fun _ => rfl) rfl rfl (fun L a w R' hw hm hmk hf => ?_)
              have e1 : a.eval (.tmp 1) = (.pointer (some ⟨w2.heap.size, 0, none⟩) : Value) := (hf 1 (by decide +kernel)).old (by kernel_rfl)
              simp only [Act.eval, Array.getD_eq_getD_getElem?] at e1
              have hbx := hm.left.right
              have q0 := hbx.cell 0
              have q1 := hbx.cell 1
              simp only [List.getElem?_cons_zero, List.getElem?_cons_succ] at q0 q1
              simp [execOp, resolve, invoke, builtin, go_sem, e1, q0, q1]
            · refine Fine2.call trivial rfl 22 #[(.agg #[.pointer (some ⟨g, 0, none⟩), .int .i64 (p : Int)])] (fun a w hf => ?_) (fun L a w R' hL hw hm hmk hf => ?_)
              · have e15 : a.eval (.tmp 15) = (.agg #[.pointer (some ⟨g, 0, none⟩), .int .i64 (p : Int)] : Value) := (hf 15 (by decide +kernel)).new 1 (by kernel_rfl) (by kernel_rfl)
                simp only [Act.eval, Array.getD_eq_getD_getElem?] at e15
                simp [execOp, resolve, invoke, go_sem, e15]
              · refine (HLG.out w _ hm).mono ?_
                rintro e w' ⟨a5, c5, rfl, hm2⟩
                refine ⟨_, rfl, ⟨a5, c5, rfl⟩, ?_⟩
                have hm4 : Mem wb w' (numsB (runOf 0 (2 * p + 1)) (.slice a5 (runOf 0 (2 * p + 1)).length c5) * ((if L 10 then devAt T8 g D3 else devAt T8 g Dz) * (pts w2.heap.size 54 [.pointer (some ⟨g, 0, none⟩), .int .i64 (p : Int)] * (pts bd 41 [.pointer (some ⟨g, 0, none⟩)] * R1)) * R')) := by unfold numsB; exact Mem.rowB.2 ⟨a5, c5, rfl, hm2⟩
                show Mem wb w' ((if doneSet L 2 10 then devAt T8 g D3 else devAt T8 g Dz) * (pts w2.heap.size 54 [.pointer (some ⟨g, 0, none⟩), .int .i64 (p : Int)] * (pts bd 41 [.pointer (some ⟨g, 0, none⟩)] * R1)) * (numsB (runOf 0 (2 * p + 1)) (.slice a5 (runOf 0 (2 * p + 1)).length c5) * R'))
                rw [show doneSet L 2 10 = L 10 from rfl]
                exact hm4.eq (by ac_rfl)
            · refine Fine2.run trivial _ rfl (fun _ => rfl) rfl rfl (fun L a w R' hw hm hmk hf => ?_)
              have e1 : a.eval (.tmp 1) = (.pointer (some ⟨w2.heap.size, 0, none⟩) : Value) := (hf 1 (by decide +kernel)).old (by kernel_rfl)
              simp only [Act.eval, Array.getD_eq_getD_getElem?] at e1
              simp [execOp, resolve, invoke, builtin, go_sem, e1]
            · refine Fine2.run trivial _ rfl (fun _ => rfl) rfl rfl (fun L a w R' hw hm hmk hf => ?_)
              have e17 : a.eval (.tmp 17) = (.pointer (some ⟨w2.heap.size, 1, none⟩) : Value) := (hf 17 (by decide +kernel)).new 3 (by kernel_rfl) (by kernel_rfl)
              simp only [Act.eval, Array.getD_eq_getD_getElem?] at e17
              have hbx := hm.left.right
              have q0 := hbx.cell 0
              have q1 := hbx.cell 1
              simp only [List.getElem?_cons_zero, List.getElem?_cons_succ] at q0 q1
              simp [execOp, resolve, invoke, builtin, go_sem, e17, q0, q1]
            · refine Fine2.call trivial rfl 11 #[.int .i64 (p : Int)] (fun a w hf => ?_) (fun L a w R' hL hw hm hmk hf => ?_)
              · have e18 : a.eval (.tmp 18) = (.int .i64 (p : Int) : Value) := (hf 18 (by decide +kernel)).new 4 (by kernel_rfl) (by kernel_rfl)
                simp only [Act.eval, Array.getD_eq_getD_getElem?] at e18
                simp [execOp, resolve, invoke, go_sem, e18]
              · refine (HNE.out w).mono ?_
                rintro e w' ⟨rfl, rfl⟩
                refine ⟨_, rfl, rfl, ?_⟩
                show Mem wb w ((if doneSet L 5 10 then devAt T8 g D3 else devAt T8 g Dz) * (pts w2.heap.size 54 [.pointer (some ⟨g, 0, none⟩), .int .i64 (p : Int)] * (pts bd 41 [.pointer (some ⟨g, 0, none⟩)] * R1)) * (emp * R'))
                rw [show doneSet L 5 10 = L 10 from rfl, emp_sep]
                exact hm
            · refine Fine2.run trivial _ rfl (fun _ => rfl) rfl rfl (fun L a w R' hw hm hmk hf => ?_)
              have e0 : a.eval (.tmp 0) = (.pointer (some ⟨bd, 0, none⟩) : Value) := (hf 0 (by decide +kernel)).old (by kernel_rfl)
              simp only [Act.eval, Array.getD_eq_getD_getElem?] at e0
              have hbx := hm.left.right.right
              have q0 := hbx.cell 0
              simp only [List.getElem?_cons_zero] at q0
              simp [execOp, resolve, invoke, builtin, go_sem, e0, q0]
            · refine Fine2.callP trivial rfl 28 #[.pointer (some ⟨g, 0, none⟩)] (fun a w hf => ?_) (fun L a w R' hL hw hm hmk hf hdf hcl => ?_)
              · have e20 : a.eval (.tmp 20) = (.pointer (some ⟨g, 0, none⟩) : Value) := (hf 20 (by decide +kernel)).new 6 (by kernel_rfl) (by kernel_rfl)
                simp only [Act.eval, Array.getD_eq_getD_getElem?] at e20
                simp [execOp, resolve, invoke, go_sem, e20]
              · have hm : Mem wb w ((if L 10 then devAt T8 g D3 else devAt T8 g Dz) * (pts w2.heap.size 54 [.pointer (some ⟨g, 0, none⟩), .int .i64 (p : Int)] * (pts bd 41 [.pointer (some ⟨g, 0, none⟩)] * R1)) * R') := hm
                have hL10 : L 10 = false := not_done hcl (not_done hcl (not_done hcl hL 8 _ rfl (by kernel_rfl)) 9 _ rfl (by kernel_rfl)) 10 _ rfl (by kernel_rfl)
                refine (HSE.out w ((pts w2.heap.size 54 [.pointer (some ⟨g, 0, none⟩), .int .i64 (p : Int)] * (pts bd 41 [.pointer (some ⟨g, 0, none⟩)] * R1)) * R') (by rw [hL10] at hm; exact hm.eq (by show devAt T8 g Dz * (pts w2.heap.size 54 [.pointer (some ⟨g, 0, none⟩), .int .i64 (p : Int)] * (pts bd 41 [.pointer (some ⟨g, 0, none⟩)] * R1)) * R' = _; ac_rfl))).mono ?_
                rintro e w' ⟨rfl, rfl⟩
                refine .inl ⟨_, rfl, rfl, ?_⟩
                show Mem wb w ((if doneSet L 7 10 then devAt T8 g D3 else devAt T8 g Dz) * (pts w2.heap.size 54 [.pointer (some ⟨g, 0, none⟩), .int .i64 (p : Int)] * (pts bd 41 [.pointer (some ⟨g, 0, none⟩)] * R1)) * (emp * R'))
                rw [show doneSet L 7 10 = L 10 from rfl, emp_sep]
                exact hm
            · refine Fine2.call trivial rfl 27 #[.int .i64 (4 * (p : Int) + 1), .int .i64 (s : Int)] (fun a w hf => ?_) (fun L a w R' hL hw hm hmk hf => ?_)
              · have e19 : a.eval (.tmp 19) = (.int .i64 (4 * (p : Int) + 1) : Value) := (hf 19 (by decide +kernel)).new 5 (by kernel_rfl) (by kernel_rfl)
                have e21 : a.eval (.tmp 21) = (.int .i64 (s : Int) : Value) := (hf 21 (by decide +kernel)).new 7 (by kernel_rfl) (by kernel_rfl)
                simp only [Act.eval, Array.getD_eq_getD_getElem?] at e19 e21
                simp [execOp, resolve, invoke, go_sem, e19, e21]
              · refine (HRU.out w _ hm).mono ?_
                rintro e w' ⟨a5, c5, rfl, hm2⟩
                refine ⟨_, rfl, ⟨a5, c5, rfl⟩, ?_⟩
                have hm4 : Mem wb w' (numsB (runOf (4 * p + 1) s) (.slice a5 (runOf (4 * p + 1) s).length c5) * ((if L 10 then devAt T8 g D3 else devAt T8 g Dz) * (pts w2.heap.size 54 [.pointer (some ⟨g, 0, none⟩), .int .i64 (p : Int)] * (pts bd 41 [.pointer (some ⟨g, 0, none⟩)] * R1)) * R')) := by unfold numsB; exact Mem.rowB.2 ⟨a5, c5, rfl, hm2⟩
                show Mem wb w' ((if doneSet L 8 10 then devAt T8 g D3 else devAt T8 g Dz) * (pts w2.heap.size 54 [.pointer (some ⟨g, 0, none⟩), .int .i64 (p : Int)] * (pts bd 41 [.pointer (some ⟨g, 0, none⟩)] * R1)) * (numsB (runOf (4 * p + 1) s) (.slice a5 (runOf (4 * p + 1) s).length c5) * R'))
                rw [show doneSet L 8 10 = L 10 from rfl]
                exact hm4.eq (by ac_rfl)
            · refine Fine2.open trivial (fun L a w R' hL hw hm hmk hf => ?_)
              have hm' : Mem wb w ((if L 10 then devAt T8 g D3 else devAt T8 g Dz) * (pts w2.heap.size 54 [.pointer (some ⟨g, 0, none⟩), .int .i64 (p : Int)] * (pts bd 41 [.pointer (some ⟨g, 0, none⟩)] * R1)) * ((numsB (runOf 0 (2 * p + 1)) (a.eval (.tmp 16)) * (emp * (emp * emp))) * R')) := hm
              rw [sep_emp, sep_emp, sep_emp] at hm'
              obtain ⟨a1, c1, e16, m1⟩ := Mem.rowB.1 hm'.p1
              obtain ⟨R3, hR3⟩ := hmk [false, true, false] (by kernel_rfl)
              have hm2 := m1
              rw [hR3] at hm2
              obtain ⟨a2, c2, y, m2⟩ := Mem.rowB.1 (show Mem wb w (_ * (_ * (_ * R3))) from hm2).p2
              have e22 : a.eval (.tmp 22) = .slice a2 _ c2 := y
              have hsl := m2.row_sl
              obtain ⟨a3, c3, w', hr, hd, -, -⟩ := m1.append (P := Try.prog) 57 57 Try.underlying57 hi0 hz0 hz1 hz3 rfl (by omega) (by rw [nums_length]; omega) (news_sl hsl) (news_nil hsl) (nums_one _) (by rw [runOf_length, runOf_length]; omega) (by rw [runOf_length, runOf_length]; omega)
              rw [← nums_append, ← List.length_append] at hd
              rw [← List.length_append] at hr
              refine ⟨.slice a3 ((runOf 0 (2 * p + 1)) ++ (runOf (4 * p + 1) s)).length c3, w', ?_, ⟨a3, c3, rfl⟩, ?_⟩
              · have e16 : a.eval (.tmp 16) = .slice a1 (runOf 0 (2 * p + 1)).length c1 := e16
                have e22 : a.eval (.tmp 22) = .slice a2 (runOf (4 * p + 1) s).length c2 := e22
                simp [execOp, resolve, invoke, builtin, e16, e22, hr, Result.andThen]
              · show Mem wb w' ((if doneSet L 9 10 then devAt T8 g D3 else devAt T8 g Dz) * (pts w2.heap.size 54 [.pointer (some ⟨g, 0, none⟩), .int .i64 (p : Int)] * (pts bd 41 [.pointer (some ⟨g, 0, none⟩)] * R1)) * (numsB ((runOf 0 (2 * p + 1)) ++ (runOf (4 * p + 1) s)) (.slice a3 ((runOf 0 (2 * p + 1)) ++ (runOf (4 * p + 1) s)).length c3) * R'))
                rw [show doneSet L 9 10 = L 10 from rfl]
                have h9 : Mem wb w' (numsB ((runOf 0 (2 * p + 1)) ++ (runOf (4 * p + 1) s)) (.slice a3 ((runOf 0 (2 * p + 1)) ++ (runOf (4 * p + 1) s)).length c3) * ((if L 10 then devAt T8 g D3 else devAt T8 g Dz) * (pts w2.heap.size 54 [.pointer (some ⟨g, 0, none⟩), .int .i64 (p : Int)] * (pts bd 41 [.pointer (some ⟨g, 0, none⟩)] * R1)) * R')) := by unfold numsB; exact Mem.rowB.2 ⟨a3, c3, rfl, hd.duo_row⟩
                exact h9.eq (by ac_rfl)
            · refine .inl ⟨trivial, fun L a w Kq Rq hL hw hm hmk hf hdf hcl hK => ?_⟩
              rw [eaten_none rfl, emp_sep] at hm
              obtain ⟨R3, hR3⟩ := hmk [false, false, true] (by kernel_rfl)
              have hm : Mem wb w ((if L 10 then devAt T8 g D3 else devAt T8 g Dz) * (pts w2.heap.size 54 [.pointer (some ⟨g, 0, none⟩), .int .i64 (p : Int)] * (pts bd 41 [.pointer (some ⟨g, 0, none⟩)] * R1)) * Rq) := hm
              rw [hL] at hm
              have hm : Mem wb w (devAt T8 g Dz * (pts w2.heap.size 54 [.pointer (some ⟨g, 0, none⟩), .int .i64 (p : Int)] * (pts bd 41 [.pointer (some ⟨g, 0, none⟩)] * R1)) * Rq) := hm
              have hm' := hm
              rw [hR3] at hm'
              obtain ⟨a5, c5, y, m1⟩ := Mem.rowB.1 (show Mem wb w (_ * (_ * R3)) from hm').p1
              have e23 : a.eval (.tmp 23) = .slice a5 _ c5 := y
              have e14 : a.eval (.tmp 14) = (.agg #[.pointer (some ⟨g, 0, none⟩), .int .i64 (p : Int)] : Value) := (hf 14 (by decide +kernel)).new 0 (by kernel_rfl) (by kernel_rfl)
              simp only [Act.eval, Array.getD_eq_getD_getElem?] at e14 e23
              unfold Oper.wp
              rw [show (execOp a.eval _).run Try.prog w = .ok (.enter 21 #[(.agg #[.pointer (some ⟨g, 0, none⟩), .int .i64 (p : Int)]), .slice a5 ((runOf 0 (2 * p + 1)) ++ (runOf (4 * p + 1) s)).length c5]) w from by simp only [execOp, resolve, invoke, go_sem]; simp [go_sem, e14, e23]]
              refine (HWI.out w ((pts w2.heap.size 54 [.pointer (some ⟨g, 0, none⟩), .int .i64 (p : Int)] * (pts bd 41 [.pointer (some ⟨g, 0, none⟩)] * R1)) * Rq) a5 c5 (hm.eq (by ac_rfl)) (fun w' h' => ?_)).mono ?_
              · rw [hR3] at h'
                obtain ⟨a6, c6, y2, m2⟩ := Mem.rowB.1 (show Mem wb w' (_ * (_ * R3)) from h').p1
                rw [y] at y2
                simp only [Value.slice.injEq] at y2
                obtain ⟨rfl, -, rfl⟩ := y2
                exact m2.row_sl
              intro e w' hs'
              obtain ⟨rfl, hm2⟩ := hs'.unit rfl
              refine hK _ _ rfl ?_
              show Mem wb w' ((if doneSet L 10 10 then devAt T8 g D3 else devAt T8 g Dz) * (pts w2.heap.size 54 [.pointer (some ⟨g, 0, none⟩), .int .i64 (p : Int)] * (pts bd 41 [.pointer (some ⟨g, 0, none⟩)] * R1)) * (emp * Rq))
              rw [show doneSet L 10 10 = true from rfl, emp_sep]
              exact hm2.eq (by show _ = devAt T8 g D3 * (pts w2.heap.size 54 [.pointer (some ⟨g, 0, none⟩), .int .i64 (p : Int)] * (pts bd 41 [.pointer (some ⟨g, 0, none⟩)] * R1)) * Rq; ac_rfl)
          · intro u w9 hu hm9
            have hm8 : Mem wb w9 (devAt T8 g D3 * (pts w2.heap.size 54 [.pointer (some ⟨g, 0, none⟩), .int .i64 (p : Int)] * (pts bd 41 [.pointer (some ⟨g, 0, none⟩)] * R1))) := hm9.left
            have HF := hid ((HDROP.out w9 (devAt T8 g D3 * pts bd 41 [.pointer (some ⟨g, 0, none⟩)]) (hm8.p1.right.eq (by ac_rfl))).eq (by ac_rfl) : Mem wb w9 (devAt T8 g D3 * (pts bd 41 [.pointer (some ⟨g, 0, none⟩)] * R)))
            simp only [putAll]
            clear hm9 hm8 hu HM HWI HLG HRU HSE HNE hi0 hz0 hz1 hz3
            go_simp
            go_end0
            exact IoSays.mkUnit HBE.out HF.out
end Go.Proofs.Ytpaebopmppbjbaa
