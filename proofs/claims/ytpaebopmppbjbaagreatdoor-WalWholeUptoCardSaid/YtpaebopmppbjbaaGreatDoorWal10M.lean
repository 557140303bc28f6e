import Derived.Test.YtpaebopmppbjbaaGreatDoorWal1M
/- The walk of wal's Open. -/
set_option linter.unusedVariables false
set_option linter.unusedSimpArgs false
namespace Go.Proofs.YtpaebopmppbjbaaGreatDoor
open Go Go.RowKit Go.Le
theorem runOf_le (lo hi : Nat) : ∀ x ∈ runOf lo hi, x ≤ hi := by
  intro x hx
  unfold runOf at hx
  obtain ⟨i, h1, h2⟩ := List.mem_range'.1 hx
  omega
/-- what Open's closure leaves: the log, or why it was given up -/
def openB (g : Nat) (D : Dev) (bd ba bl : Nat) (c : Int) : HP :=
  if c = 0 then ex fun x : Dev × Nat × Bool × Nat => pur (ioOpen D = (.ok (x.2.1, x.2.2.1), x.1)) * (devAt T8 g x.1 * (pts bd 40 [.pointer (some ⟨g, 0, none⟩)] * (pts ba 4 [.bool x.2.2.1] * (pts bl 41 [.pointer (some ⟨x.2.2.2, 0, none⟩)] * pts x.2.2.2 86 [.pointer (some ⟨g, 0, none⟩), .int .i64 (x.2.1 : Int), .nilIface]))))
  else ex fun x : Dev × Bool × Value => pur (ioOpen D = (.error c, x.1)) * (devAt T8 g x.1 * (pts bd 40 [.pointer (some ⟨g, 0, none⟩)] * (pts ba 4 [.bool x.2.1] * pts bl 41 [x.2.2])))

set_option maxRecDepth 20000 in
set_option maxHeartbeats 8000000 in
theorem Open1_any (wb w0 : World) (R : HP) (g bd ba bl : Nat) (D : Dev) (av : Bool) (lv : Value) (h : Mem wb w0 (devAt T8 g D * (pts bd 40 [.pointer (some ⟨g, 0, none⟩)] * (pts ba 4 [.bool av] * (pts bl 41 [lv] * R))))) (hpl : D.pend.length ≤ 700000000) :
    Calls Tryz.prog 41 #[.pointer (some ⟨bd, 0, none⟩), .pointer (some ⟨ba, 0, none⟩), .pointer (some ⟨bl, 0, none⟩)] w0 fun e w2 =>
      (e = .returned (.tuple #[]) ∧ Mem wb w2 (openB g D bd ba bl 0 * R)) ∨ ∃ c, e = .panicked [errP 49 c] ∧ c ≠ 0 ∧ Mem wb w2 (openB g D bd ba bl c * R) := by
  have q0 := h.p1.cell 0
  simp only [List.getElem?_cons_zero] at q0
  have HBE0 := hid (begun_any wb w0 _ g D h (by omega))
  have HGB : Hid (∀ p D', ioBegun D = (.ok p, D') → p = roomOf D.n ∧ D'.pend.length ≤ D.pend.length) := by
    show ∀ p D', _
    intro p D' hb
    unfold ioBegun at hb
    split at hb
    · cases hb
    · split at hb
      · cases hb
      · split at hb
        · cases hb; exact ⟨rfl, Nat.le_refl _⟩
        · unfold Io.and ioFlush at hb
          have hfp := flush_pend D
          by_cases hf : D.flush.2 = 0
          · simp only [hf, if_true] at hb
            cases hb
            exact ⟨rfl, hfp⟩
          · simp only [hf, if_false] at hb
            cases hb
  have FIN : Hid (∀ ag w' c D', ioOpen D = (.error c, D') → c ≠ 0 → Mem wb w' (devAt T8 g D' * (pts bd 40 [.pointer (some ⟨g, 0, none⟩)] * (pts ba 4 [.bool ag] * (pts bl 41 [lv] * R)))) →
      ((Ending.panicked [errP 49 c] = .returned (.tuple #[]) ∧ Mem wb w' (openB g D bd ba bl 0 * R)) ∨ ∃ c2, Ending.panicked [errP 49 c] = .panicked [errP 49 c2] ∧ c2 ≠ 0 ∧ Mem wb w' (openB g D bd ba bl c2 * R))) := by
    show ∀ ag w' c D', _
    intro ag w' c D' hb hc hm
    refine .inr ⟨c, rfl, hc, ?_⟩
    unfold openB
    rw [if_neg hc]
    refine Mem.exl.2 ⟨(D', ag, lv), ?_⟩
    rw [sep_assoc, Mem.pur]
    exact ⟨hb, hm.eq (by ac_rfl)⟩
  obtain ⟨rb, HRB⟩ : ∃ r, Hid (ioBegun D = r) := ⟨_, hid rfl⟩
  rw [HRB.out] at HBE0
  clear h
  rcases rb with ⟨e1 | p, D1⟩
  · have HBE : Hid (ioOpen D = (.error e1, D1)) := hid (Io.and_error HRB.out)
    clear HRB HGB
    go_enter Tryz.func41, Tryz.ntmps41
    go_wp2_with fail
    refine HBE0.out.mono ?_
    intro e w2 hs'
    obtain ⟨rfl, hc, hm2⟩ := hs'.error rfl
    dsimp only
    exact ⟨rfl, FIN.out _ _ _ _ HBE.out hc hm2⟩
  · obtain ⟨hpe, hp1⟩ := HGB.out p D1 HRB.out
    have hp250 : p ≤ 250 := by rw [hpe]; exact room_le _
    have HB1 : Hid (ioOpen D = ((ioAgain p).and fun a => (ioWiped (runOf 0 (2 * p + 1))).and fun _ => Io.ret (p, a)) D1) := hid (Io.and_ok HRB.out)
    have hpl1 : D1.pend.length ≤ 700000000 := by omega
    clear HRB HGB hpe hp1
    go_enter Tryz.func41, Tryz.ntmps41
    go_wp2_with fail
    refine HBE0.out.mono ?_
    intro e w2 hs'
    obtain ⟨v, rfl, hm2⟩ := hs'.ok rfl
    unfold diskB at hm2
    rw [Mem.pur] at hm2
    obtain ⟨rfl, hm3⟩ := hm2
    dsimp only
    have hmA := hm3.alloc [.pointer (some ⟨g, 0, none⟩), .int .i64 (p : Int)] 84
    have HAG := hid (again_any wb _ _ g D1 (hmA.p1) (by omega) p hp250)
    have HBX : Hid (∀ w' R', Mem wb w' (pts w2.heap.size 84 [.pointer (some ⟨g, 0, none⟩), .int .i64 (p : Int)] * R') → w'.cell? ⟨w2.heap.size, 0, none⟩ = some (.pointer (some ⟨g, 0, none⟩)) ∧ w'.cell? ⟨w2.heap.size, 1, none⟩ = some (.int .i64 (p : Int))) := fun w' R' h => ⟨h.cell 0, h.cell 1⟩
    have HGA := hid (Io.Grows.again p)
    obtain ⟨ra, HRA⟩ : ∃ r, Hid (ioAgain p D1 = r) := ⟨_, hid rfl⟩
    have HGA2 : Hid (ra.2.pend.length ≤ D1.pend.length + 513) := by rw [← HRA.out]; exact hid (HGA.out D1)
    rw [HRA.out] at HAG
    clear hm3 hmA hs' HBE0 HGA
    go_wp2_with fail
    refine HAG.out.mono ?_
    intro e w3 hs'
    rcases ra with ⟨e2 | a, D2⟩
    · have HBE : Hid (ioOpen D = (.error e2, D2)) := by
        show _ = _
        rw [HB1.out]
        exact Io.and_error HRA.out
      obtain ⟨rfl, hc, hm2⟩ := hs'.error rfl
      dsimp only
      exact ⟨rfl, FIN.out _ _ _ _ HBE.out hc hm2.p1.right⟩
    · have HB2 : Hid (ioOpen D = ((ioWiped (runOf 0 (2 * p + 1))).and fun _ => Io.ret (p, a)) D2) := by
        show _ = _
        rw [HB1.out]
        exact Io.and_ok HRA.out
      have hpl2 : D2.pend.length ≤ 800000000 := by have h2 : D2.pend.length ≤ D1.pend.length + 513 := HGA2.out; omega
      obtain ⟨v, rfl, hm2⟩ := hs'.ok rfl
      unfold boolB at hm2
      rw [Mem.pur] at hm2
      obtain ⟨rfl, hm3⟩ := hm2
      dsimp only
      have hba := hm3.eq (by ac_rfl : _ = pts ba 4 [.bool av] * (devAt T8 g D2 * (pts w2.heap.size 84 [.pointer (some ⟨g, 0, none⟩), .int .i64 (p : Int)] * (pts bd 40 [.pointer (some ⟨g, 0, none⟩)] * (pts bl 41 [lv] * R)))))
      have c0 := hba.cell 0
      have f0 := hba.frozen 0
      simp only [List.getElem?_cons_zero] at c0
      have hset := hba.setCell 0 (.bool a)
      simp only [List.set_cons_zero] at hset
      obtain ⟨R2, HR2d⟩ : ∃ R2, Hid (R2 = pts bd 40 [.pointer (some ⟨g, 0, none⟩)] * (pts ba 4 [.bool a] * (pts bl 41 [lv] * R))) := ⟨_, hid rfl⟩
      have HM := hid (hset.eq (by rw [HR2d.out]; ac_rfl : _ = devAt T8 g D2 * (pts w2.heap.size 84 [.pointer (some ⟨g, 0, none⟩), .int .i64 (p : Int)] * R2)))
      obtain ⟨q0, q1⟩ := HBX.out _ _ HM.out.right
      have FIN2 : Hid (∀ w' c D', ioOpen D = (.error c, D') → c ≠ 0 → Mem wb w' (devAt T8 g D' * (pts w2.heap.size 84 [.pointer (some ⟨g, 0, none⟩), .int .i64 (p : Int)] * R2)) →
          ((Ending.panicked [errP 49 c] = .returned (.tuple #[]) ∧ Mem wb w' (openB g D bd ba bl 0 * R)) ∨ ∃ c2, Ending.panicked [errP 49 c] = .panicked [errP 49 c2] ∧ c2 ≠ 0 ∧ Mem wb w' (openB g D bd ba bl c2 * R))) := by
        show ∀ w' c D', _
        intro w' c D' hb hc hm
        rw [HR2d.out] at hm
        exact FIN.out _ _ _ _ hb hc hm.p1.right
      have HLG : Hid (∀ w R', Mem wb w R' → Calls Tryz.prog 45 #[(.agg #[.pointer (some ⟨g, 0, none⟩), .int .i64 (p : Int)])] w fun e w' => ∃ a c, e = .returned (.slice a (2 * p + 1) c) ∧ Mem wb w' (row 3 1 a (2 * p + 1) c (nums (runOf 0 (2 * p + 1))) * R')) := fun w R' h => log_any wb w R' h _ p hp250
      have HWI : Hid (∀ w R' a c, Mem wb w (devAt T8 g D2 * R') → (∀ w', Mem wb w' R' → Sl w' a (runOf 0 (2 * p + 1)).length c (nums (runOf 0 (2 * p + 1)))) → Calls Tryz.prog 44 #[(.agg #[.pointer (some ⟨g, 0, none⟩), .int .i64 (p : Int)]), .slice a (runOf 0 (2 * p + 1)).length c] w (IoSays wb g R' (ioWiped (runOf 0 (2 * p + 1)) D2) unitB)) := by
        show ∀ w R' a c, _
        intro w R' a c h hs
        exact wiped_any wb w R' g D2 h _ a _ c _ (by rw [runOf_length]; omega) (by omega) hs (fun x hx => by have := runOf_le _ _ x hx; omega)
      obtain ⟨rw3, HRW⟩ : ∃ r, Hid (ioWiped (runOf 0 (2 * p + 1)) D2 = r) := ⟨_, hid rfl⟩
      rw [HRW.out] at HWI
      clear hm3 hba hset hs' HAG HRA
      rcases rw3 with ⟨e3 | u3, D3⟩
      · have HBE : Hid (ioOpen D = (.error e3, D3)) := by
          show _ = _
          rw [HB2.out]
          exact Io.and_error HRW.out
        clear HB2 HRW
        go_wp2_with fail
        refine region_mem (by kernel_rfl) (V := fun jv x => match jv with | 0 => x = (.agg #[.pointer (some ⟨g, 0, none⟩), .int .i64 (p : Int)] : Value) | 1 => x = (.agg #[.pointer (some ⟨g, 0, none⟩), .int .i64 (p : Int)] : Value) | 2 => ∃ a5 c5, x = (.slice a5 (2 * p + 1) c5 : Value) | 3 => False | _ => True) (A := (fun L => (if L 3 then devAt T8 g D3 else devAt T8 g D2) * (pts w2.heap.size 84 [.pointer (some ⟨g, 0, none⟩), .int .i64 (p : Int)] * R2))) (Bs := [(2, none, numsB (runOf 0 (2 * p + 1)))]) HM.out (fun L L' h => by show (if L 3 then _ else _) * _ = (if L' 3 then _ else _) * _; rw [h 3 (by decide)]) (show ([2] : List Nat).Nodup by decide) (by kernel_rfl) (by kernel_rfl) ?_ ?_
        · refine ⟨?_, ?_, ?_, ?_, trivial⟩
          · refine Fine2.run trivial _ rfl (fun _ => rfl) rfl rfl (fun L a w R' hw hm hmk hf => ?_)
            have e3 : a.eval (.tmp 3) = (.pointer (some ⟨w2.heap.size, 0, none⟩) : Value) := (hf 3 (by decide +kernel)).old (by kernel_rfl)
            simp only [Act.eval, Array.getD_eq_getD_getElem?] at e3
            have hbx := hm.left.right
            have q0 := hbx.cell 0
            have q1 := hbx.cell 1
            simp only [List.getElem?_cons_zero, List.getElem?_cons_succ] at q0 q1
            simp [execOp, resolve, invoke, builtin, go_sem, e3, q0, q1]
          · refine Fine2.run trivial _ rfl (fun _ => rfl) rfl rfl (fun L a w R' hw hm hmk hf => ?_)
            have e3 : a.eval (.tmp 3) = (.pointer (some ⟨w2.heap.size, 0, none⟩) : Value) := (hf 3 (by decide +kernel)).old (by kernel_rfl)
            simp only [Act.eval, Array.getD_eq_getD_getElem?] at e3
            have hbx := hm.left.right
            have q0 := hbx.cell 0
            have q1 := hbx.cell 1
            simp only [List.getElem?_cons_zero, List.getElem?_cons_succ] at q0 q1
            simp [execOp, resolve, invoke, builtin, go_sem, e3, q0, q1]
          · refine Fine2.call trivial rfl 45 #[(.agg #[.pointer (some ⟨g, 0, none⟩), .int .i64 (p : Int)])] (fun a w hf => ?_) (fun L a w R' hL hw hm hmk hf => ?_)
            · have e9 : a.eval (.tmp 9) = (.agg #[.pointer (some ⟨g, 0, none⟩), .int .i64 (p : Int)] : Value) := (hf 9 (by decide +kernel)).new 1 (by kernel_rfl) (by kernel_rfl)
              simp only [Act.eval, Array.getD_eq_getD_getElem?] at e9
              simp [execOp, resolve, invoke, go_sem, e9]
            · refine (HLG.out w _ hm).mono ?_
              rintro e w' ⟨a5, c5, rfl, hm2⟩
              refine ⟨_, rfl, ⟨a5, c5, rfl⟩, ?_⟩
              have hm3 := (Mem.rowB.2 ⟨a5, c5, rfl, hm2⟩ : Mem wb w' (rowB 3 (2 * p + 1) (nums (runOf 0 (2 * p + 1))) _ * _))
              have hm4 : Mem wb w' (numsB (runOf 0 (2 * p + 1)) (.slice a5 (2 * p + 1) c5) * ((if L 3 then devAt T8 g D3 else devAt T8 g D2) * (pts w2.heap.size 84 [.pointer (some ⟨g, 0, none⟩), .int .i64 (p : Int)] * R2) * R')) := by unfold numsB; rw [runOf_length]; exact hm3
              show Mem wb w' ((if doneSet L 2 3 then devAt T8 g D3 else devAt T8 g D2) * (pts w2.heap.size 84 [.pointer (some ⟨g, 0, none⟩), .int .i64 (p : Int)] * R2) * (numsB (runOf 0 (2 * p + 1)) (.slice a5 (2 * p + 1) c5) * R'))
              rw [show doneSet L 2 3 = L 3 from rfl]
              exact hm4.eq (by ac_rfl)
          · refine .inl ⟨trivial, fun L a w Kq Rq hL hw hm hmk hf hdf hcl hK => ?_⟩
            rw [eaten_none rfl, emp_sep] at hm
            obtain ⟨R3, hR3⟩ := hmk [true] (by kernel_rfl)
            have hm : Mem wb w ((if L 3 then devAt T8 g D3 else devAt T8 g D2) * (pts w2.heap.size 84 [.pointer (some ⟨g, 0, none⟩), .int .i64 (p : Int)] * R2) * Rq) := hm
            rw [hL] at hm
            have hm : Mem wb w (devAt T8 g D2 * (pts w2.heap.size 84 [.pointer (some ⟨g, 0, none⟩), .int .i64 (p : Int)] * R2) * Rq) := hm
            have hm' := hm
            rw [hR3] at hm'
            obtain ⟨a5, c5, y, m1⟩ := Mem.rowB.1 (show Mem wb w (_ * (_ * R3)) from hm').p1
            have e10 : a.eval (.tmp 10) = .slice a5 _ c5 := y
            have e8 : a.eval (.tmp 8) = (.agg #[.pointer (some ⟨g, 0, none⟩), .int .i64 (p : Int)] : Value) := (hf 8 (by decide +kernel)).new 0 (by kernel_rfl) (by kernel_rfl)
            simp only [Act.eval, Array.getD_eq_getD_getElem?] at e8 e10
            unfold Oper.wp
            rw [show (execOp a.eval _).run Tryz.prog w = .ok (.enter 44 #[(.agg #[.pointer (some ⟨g, 0, none⟩), .int .i64 (p : Int)]), .slice a5 (runOf 0 (2 * p + 1)).length c5]) w from by simp [execOp, resolve, invoke, go_sem, e8, e10]]
            refine (HWI.out w (pts w2.heap.size 84 [.pointer (some ⟨g, 0, none⟩), .int .i64 (p : Int)] * R2 * Rq) a5 c5 (hm.eq (by ac_rfl)) (fun w' h' => ?_)).mono ?_
            · rw [hR3] at h'
              obtain ⟨a6, c6, y2, m2⟩ := Mem.rowB.1 (show Mem wb w' (_ * (_ * R3)) from h').p1
              rw [y] at y2
              simp only [Value.slice.injEq] at y2
              obtain ⟨rfl, -, rfl⟩ := y2
              exact m2.row_sl
            intro e w' hs'
            obtain ⟨rfl, hc, hm2⟩ := hs'.error rfl
            exact ⟨hdf, FIN2.out _ _ _ HBE.out hc (hm2.eq (by ac_rfl) : Mem wb w' (Rq * (devAt T8 g D3 * (pts w2.heap.size 84 [.pointer (some ⟨g, 0, none⟩), .int .i64 (p : Int)] * R2)))).right⟩
        · intro u w9 hu hm9
          exact absurd (hu 11 3 rfl) (fun h => h)
      · have HBE : Hid (ioOpen D = (.ok (p, a), D3)) := by
          show _ = _
          rw [HB2.out]
          exact Io.and_ok HRW.out
        clear HB2 HRW
        go_wp2_with fail
        refine region_mem (by kernel_rfl) (V := fun jv x => match jv with | 0 => x = (.agg #[.pointer (some ⟨g, 0, none⟩), .int .i64 (p : Int)] : Value) | 1 => x = (.agg #[.pointer (some ⟨g, 0, none⟩), .int .i64 (p : Int)] : Value) | 2 => ∃ a5 c5, x = (.slice a5 (2 * p + 1) c5 : Value) | 3 => x = (.tuple #[] : Value) | _ => True) (A := (fun L => (if L 3 then devAt T8 g D3 else devAt T8 g D2) * (pts w2.heap.size 84 [.pointer (some ⟨g, 0, none⟩), .int .i64 (p : Int)] * R2))) (Bs := [(2, none, numsB (runOf 0 (2 * p + 1)))]) HM.out (fun L L' h => by show (if L 3 then _ else _) * _ = (if L' 3 then _ else _) * _; rw [h 3 (by decide)]) (show ([2] : List Nat).Nodup by decide) (by kernel_rfl) (by kernel_rfl) ?_ ?_
        · refine ⟨?_, ?_, ?_, ?_, trivial⟩
          · refine Fine2.run trivial _ rfl (fun _ => rfl) rfl rfl (fun L a w R' hw hm hmk hf => ?_)
            have e3 : a.eval (.tmp 3) = (.pointer (some ⟨w2.heap.size, 0, none⟩) : Value) := (hf 3 (by decide +kernel)).old (by kernel_rfl)
            simp only [Act.eval, Array.getD_eq_getD_getElem?] at e3
            have hbx := hm.left.right
            have q0 := hbx.cell 0
            have q1 := hbx.cell 1
            simp only [List.getElem?_cons_zero, List.getElem?_cons_succ] at q0 q1
            simp [execOp, resolve, invoke, builtin, go_sem, e3, q0, q1]
          · refine Fine2.run trivial _ rfl (fun _ => rfl) rfl rfl (fun L a w R' hw hm hmk hf => ?_)
            have e3 : a.eval (.tmp 3) = (.pointer (some ⟨w2.heap.size, 0, none⟩) : Value) := (hf 3 (by decide +kernel)).old (by kernel_rfl)
            simp only [Act.eval, Array.getD_eq_getD_getElem?] at e3
            have hbx := hm.left.right
            have q0 := hbx.cell 0
            have q1 := hbx.cell 1
            simp only [List.getElem?_cons_zero, List.getElem?_cons_succ] at q0 q1
            simp [execOp, resolve, invoke, builtin, go_sem, e3, q0, q1]
          · refine Fine2.call trivial rfl 45 #[(.agg #[.pointer (some ⟨g, 0, none⟩), .int .i64 (p : Int)])] (fun a w hf => ?_) (fun L a w R' hL hw hm hmk hf => ?_)
            · have e9 : a.eval (.tmp 9) = (.agg #[.pointer (some ⟨g, 0, none⟩), .int .i64 (p : Int)] : Value) := (hf 9 (by decide +kernel)).new 1 (by kernel_rfl) (by kernel_rfl)
              simp only [Act.eval, Array.getD_eq_getD_getElem?] at e9
              simp [execOp, resolve, invoke, go_sem, e9]
            · refine (HLG.out w _ hm).mono ?_
              rintro e w' ⟨a5, c5, rfl, hm2⟩
              refine ⟨_, rfl, ⟨a5, c5, rfl⟩, ?_⟩
              have hm3 := (Mem.rowB.2 ⟨a5, c5, rfl, hm2⟩ : Mem wb w' (rowB 3 (2 * p + 1) (nums (runOf 0 (2 * p + 1))) _ * _))
              have hm4 : Mem wb w' (numsB (runOf 0 (2 * p + 1)) (.slice a5 (2 * p + 1) c5) * ((if L 3 then devAt T8 g D3 else devAt T8 g D2) * (pts w2.heap.size 84 [.pointer (some ⟨g, 0, none⟩), .int .i64 (p : Int)] * R2) * R')) := by unfold numsB; rw [runOf_length]; exact hm3
              show Mem wb w' ((if doneSet L 2 3 then devAt T8 g D3 else devAt T8 g D2) * (pts w2.heap.size 84 [.pointer (some ⟨g, 0, none⟩), .int .i64 (p : Int)] * R2) * (numsB (runOf 0 (2 * p + 1)) (.slice a5 (2 * p + 1) c5) * R'))
              rw [show doneSet L 2 3 = L 3 from rfl]
              exact hm4.eq (by ac_rfl)
          · refine .inl ⟨trivial, fun L a w Kq Rq hL hw hm hmk hf hdf hcl hK => ?_⟩
            rw [eaten_none rfl, emp_sep] at hm
            obtain ⟨R3, hR3⟩ := hmk [true] (by kernel_rfl)
            have hm : Mem wb w ((if L 3 then devAt T8 g D3 else devAt T8 g D2) * (pts w2.heap.size 84 [.pointer (some ⟨g, 0, none⟩), .int .i64 (p : Int)] * R2) * Rq) := hm
            rw [hL] at hm
            have hm : Mem wb w (devAt T8 g D2 * (pts w2.heap.size 84 [.pointer (some ⟨g, 0, none⟩), .int .i64 (p : Int)] * R2) * Rq) := hm
            have hm' := hm
            rw [hR3] at hm'
            obtain ⟨a5, c5, y, m1⟩ := Mem.rowB.1 (show Mem wb w (_ * (_ * R3)) from hm').p1
            have e10 : a.eval (.tmp 10) = .slice a5 _ c5 := y
            have e8 : a.eval (.tmp 8) = (.agg #[.pointer (some ⟨g, 0, none⟩), .int .i64 (p : Int)] : Value) := (hf 8 (by decide +kernel)).new 0 (by kernel_rfl) (by kernel_rfl)
            simp only [Act.eval, Array.getD_eq_getD_getElem?] at e8 e10
            unfold Oper.wp
            rw [show (execOp a.eval _).run Tryz.prog w = .ok (.enter 44 #[(.agg #[.pointer (some ⟨g, 0, none⟩), .int .i64 (p : Int)]), .slice a5 (runOf 0 (2 * p + 1)).length c5]) w from by simp [execOp, resolve, invoke, go_sem, e8, e10]]
            refine (HWI.out w (pts w2.heap.size 84 [.pointer (some ⟨g, 0, none⟩), .int .i64 (p : Int)] * R2 * Rq) a5 c5 (hm.eq (by ac_rfl)) (fun w' h' => ?_)).mono ?_
            · rw [hR3] at h'
              obtain ⟨a6, c6, y2, m2⟩ := Mem.rowB.1 (show Mem wb w' (_ * (_ * R3)) from h').p1
              rw [y] at y2
              simp only [Value.slice.injEq] at y2
              obtain ⟨rfl, -, rfl⟩ := y2
              exact m2.row_sl
            intro e w' hs'
            obtain ⟨rfl, hm2⟩ := hs'.unit rfl
            refine hK _ _ rfl ?_
            show Mem wb w' ((if doneSet L 3 3 then devAt T8 g D3 else devAt T8 g D2) * (pts w2.heap.size 84 [.pointer (some ⟨g, 0, none⟩), .int .i64 (p : Int)] * R2) * (emp * Rq))
            rw [show doneSet L 3 3 = true from rfl, emp_sep]
            exact hm2.eq (by show _ = devAt T8 g D3 * (pts w2.heap.size 84 [.pointer (some ⟨g, 0, none⟩), .int .i64 (p : Int)] * R2) * Rq; ac_rfl)
        · intro u w9 hu hm9
          have hm8 : Mem wb w9 (devAt T8 g D3 * (pts w2.heap.size 84 [.pointer (some ⟨g, 0, none⟩), .int .i64 (p : Int)] * R2)) := hm9.left
          obtain ⟨q0, q1⟩ := HBX.out _ _ hm8.right
          rw [HR2d.out] at hm8
          have hn := hm8.alloc [.pointer (some ⟨g, 0, none⟩), .int .i64 (p : Int), .nilIface] 86
          have hbl := hn.eq (by ac_rfl : _ = pts bl 41 [lv] * (pts w9.heap.size 86 [.pointer (some ⟨g, 0, none⟩), .int .i64 (p : Int), .nilIface] * (devAt T8 g D3 * (pts w2.heap.size 84 [.pointer (some ⟨g, 0, none⟩), .int .i64 (p : Int)] * (pts bd 40 [.pointer (some ⟨g, 0, none⟩)] * (pts ba 4 [.bool a] * R))))))
          have c1 := hbl.cell 0
          have f1 := hbl.frozen 0
          simp only [List.getElem?_cons_zero] at c1
          have hs2 := hbl.setCell 0 (.pointer (some ⟨w9.heap.size, 0, none⟩))
          simp only [List.set_cons_zero] at hs2
          have HS2 := hid hs2
          simp only [putAll]
          clear hm9 hm8 hn hbl hs2 hu HM HWI HLG
          go_simp
          go_wp2_with fail
          go_end0
          refine .inl ⟨rfl, ?_⟩
          unfold openB
          rw [if_pos rfl]
          refine Mem.exl.2 ⟨(D3, p, a, w9.heap.size), ?_⟩
          rw [sep_assoc, Mem.pur]
          exact ⟨HBE.out, (HS2.out.eq (by ac_rfl) : Mem wb _ (pts w2.heap.size 84 [.pointer (some ⟨g, 0, none⟩), .int .i64 (p : Int)] * (devAt T8 g D3 * (pts bd 40 [.pointer (some ⟨g, 0, none⟩)] * (pts ba 4 [.bool a] * (pts bl 41 [.pointer (some ⟨w9.heap.size, 0, none⟩)] * (pts w9.heap.size 86 [.pointer (some ⟨g, 0, none⟩), .int .i64 (p : Int), .nilIface] * R))))))).right.eq (by ac_rfl)⟩
end Go.Proofs.YtpaebopmppbjbaaGreatDoor

/- The walk of wal's Open. -/
set_option linter.unusedVariables false
set_option linter.unusedSimpArgs false
namespace Go.Proofs.YtpaebopmppbjbaaGreatDoor
open Go Go.RowKit Go.Le
/-- an error with a call around it -/
def faultB (s : ByteArray) (at' c : Int) (v : Value) : HP := ex fun gf : Nat => pur (v = .iface 53 (.pointer (some ⟨gf, 0, none⟩))) * pts gf 55 [.string s, .int .i64 at', .iface 49 (.int .i64 c)]
theorem Mem.faultB {wb w : World} {R : HP} {s : ByteArray} {at' c : Int} {v : Value} : Mem wb w (YtpaebopmppbjbaaGreatDoor.faultB s at' c v * R) ↔ ∃ gf, v = .iface 53 (.pointer (some ⟨gf, 0, none⟩)) ∧ Mem wb w (pts gf 55 [.string s, .int .i64 at', .iface 49 (.int .i64 c)] * R) := by
  unfold YtpaebopmppbjbaaGreatDoor.faultB
  rw [Mem.exl]
  constructor
  · rintro ⟨gf, h⟩
    rw [sep_assoc, Mem.pur] at h
    exact ⟨gf, h.1, h.2⟩
  · rintro ⟨gf, h1, h2⟩
    exact ⟨gf, by rw [sep_assoc, Mem.pur]; exact ⟨h1, h2⟩⟩
/-- an open log -/
def logB (g p : Nat) (er : Value) (gl : Nat) : HP := pts gl 86 [.pointer (some ⟨g, 0, none⟩), .int .i64 (p : Int), er]
/-- what Open answers -/
def OpenSays (wb : World) (g : Nat) (R : HP) (res : Except Int (Nat × Bool) × Dev) (e : Ending) (w' : World) : Prop :=
  match res with
  | (.ok x, D') => ∃ gl, e = .returned (.tuple #[.pointer (some ⟨gl, 0, none⟩), .bool x.2, .nilIface]) ∧ Mem wb w' (logB g x.1 .nilIface gl * (devAt T8 g D' * R))
  | (.error c, D') => ∃ v, e = .returned (.tuple #[.pointer none, .bool false, v]) ∧ c ≠ 0 ∧ Mem wb w' (faultB ⟨#[79, 112, 101, 110]⟩ 0 c v * (devAt T8 g D' * R))

/-- a call of a function that has a body enters it -/
theorem enters_body {P : Program} {f : FuncId} {fn : Func} {c : Code} (hf : P.funcs[f]? = some fn) (hn : (fn.name == "runtime.NumGoroutine") = false) (hb : fn.body = some c) (args : Array Value) (w : World) : (callFunc f args).run P w = .ok (.enter f args) w := by
  have h1 : fn.name ≠ "runtime.NumGoroutine" := by simpa using hn
  simp [callFunc, hf, h1, hb, mark]
theorem enters18 (args : Array Value) (w : World) : (callFunc 41 args).run Tryz.prog w = .ok (.enter 41 args) w :=
  enters_body Tryz.func41 (by kernel_rfl) rfl args w
set_option maxRecDepth 20000 in
set_option maxHeartbeats 8000000 in
theorem Open_any (wb w0 : World) (R : HP) (g : Nat) (D : Dev) (h : Mem wb w0 (devAt T8 g D * R)) (hpl : D.pend.length ≤ 700000000) :
    Calls Tryz.prog 18 #[.pointer (some ⟨g, 0, none⟩)] w0 (OpenSays wb g R (ioOpen D)) := by
  have hmf : ∀ (fn : Fn) (first cap : Array Value) (w : World), (Instr.makeFunc fn first cap).run Tryz.prog w = .ok (.func fn first cap) w := fun _ _ _ _ => rfl
  have h1 := h.alloc [.pointer (some ⟨g, 0, none⟩)] 40
  have h2 := h1.alloc [.pointer none] 41
  have h3 := h2.alloc [.bool false] 4
  have s1 : (w0.alloc (.cells #[.pointer (some ⟨g, 0, none⟩)] 40)).heap.size = w0.heap.size + 1 := by simp
  have s2 : ((w0.alloc (.cells #[.pointer (some ⟨g, 0, none⟩)] 40)).alloc (.cells #[.pointer none] 41)).heap.size = w0.heap.size + 1 + 1 := by simp
  have HCA := hid (caught_any wb _ (devAt T8 g D * (pts w0.heap.size 40 [.pointer (some ⟨g, 0, none⟩)] * (pts (w0.heap.size + 1 + 1) 4 [.bool false] * pts (w0.heap.size + 1) 41 [.pointer none]))) (openB g D w0.heap.size (w0.heap.size + 1 + 1) (w0.heap.size + 1)) R
    (h3.eq (by rw [← s2, ← s1]; ac_rfl)) 41 #[.pointer (some ⟨w0.heap.size, 0, none⟩), .pointer (some ⟨w0.heap.size + 1 + 1, 0, none⟩), .pointer (some ⟨w0.heap.size + 1, 0, none⟩)] (fun w => enters18 _ w)
    (fun w1 R1 hm1 => Open1_any wb w1 R1 g _ _ _ D false (.pointer none) (hm1.eq (by ac_rfl)) hpl))
  clear h h1 h2 h3 s1 s2
  go_enter Tryz.func18, Tryz.ntmps18
  go_wp2_with fail
  refine HCA.out.mono ?_
  rintro e w2 ⟨c, rfl, hm⟩
  dsimp only
  clear HCA
  by_cases hc : c = 0
  · subst hc
    unfold openB at hm
    rw [if_pos rfl] at hm
    obtain ⟨⟨D', p, av, gl⟩, hm⟩ := Mem.exl.1 hm
    rw [sep_assoc, Mem.pur] at hm
    obtain ⟨hio, hm⟩ := hm
    dsimp only at hio hm
    have HIO := hid hio
    obtain ⟨R2, HR2d⟩ : ∃ R2, Hid (R2 = logB g p .nilIface gl * (devAt T8 g D' * (pts w0.heap.size 40 [.pointer (some ⟨g, 0, none⟩)] * R))) := ⟨_, hid rfl⟩
    have HM := hid (hm.eq (by rw [HR2d.out]; unfold logB; ac_rfl : _ = (pts (w0.heap.size + 1) 41 [.pointer (some ⟨gl, 0, none⟩)] * (pts (w0.heap.size + 1 + 1) 4 [.bool av] * R2))))
    clear hm hio
    go_wp2_with fail
    refine region_mem (by kernel_rfl) (V := fun jv x => match jv with | 0 => x = (.pointer (some ⟨gl, 0, none⟩) : Value) | 1 => x = (.bool av : Value) | 2 => x = undef | 3 => x = undef | 4 => x = (.nilIface : Value) | _ => True) (A := (fun _ => (pts (w0.heap.size + 1) 41 [.pointer (some ⟨gl, 0, none⟩)] * (pts (w0.heap.size + 1 + 1) 4 [.bool av] * R2)))) (Bs := []) HM.out (fun _ _ _ => rfl) (show ([] : List Nat).Nodup by decide) (by kernel_rfl) (by kernel_rfl) ?_ ?_
    · refine ⟨?_, ?_, ?_, ?_, ?_, trivial⟩
      · refine Fine2.run trivial _ rfl (fun _ => rfl) rfl rfl (fun L a w R' hw hm hmk hf => ?_)
        have e2 : a.eval (.tmp 2) = (.pointer (some ⟨w0.heap.size + 1, 0, none⟩) : Value) := (hf 2 (by decide +kernel)).old (by kernel_rfl)
        simp only [Act.eval, Array.getD_eq_getD_getElem?] at e2
        have hbx := hm.left
        have q0 := hbx.cell 0
        simp only [List.getElem?_cons_zero] at q0
        simp [execOp, resolve, invoke, builtin, go_sem, e2, q0]
      · refine Fine2.run trivial _ rfl (fun _ => rfl) rfl rfl (fun L a w R' hw hm hmk hf => ?_)
        have e3 : a.eval (.tmp 3) = (.pointer (some ⟨w0.heap.size + 1 + 1, 0, none⟩) : Value) := (hf 3 (by decide +kernel)).old (by kernel_rfl)
        simp only [Act.eval, Array.getD_eq_getD_getElem?] at e3
        have hbx := hm.left.right
        have q0 := hbx.cell 0
        simp only [List.getElem?_cons_zero] at q0
        simp [execOp, resolve, invoke, builtin, go_sem, e3, q0]
      · refine Fine2.store trivial rfl (fun L a w R' hL hw hm hmk hf => ?_)
        rw [eaten_none rfl, emp_sep] at hm
        have e2 : a.eval (.tmp 2) = (.pointer (some ⟨w0.heap.size + 1, 0, none⟩) : Value) := (hf 2 (by decide +kernel)).old (by kernel_rfl)
        have e12 : a.eval (.tmp 12) = (.pointer (some ⟨gl, 0, none⟩) : Value) := (hf 12 (by decide +kernel)).new 0 (by kernel_rfl) (by kernel_rfl)
        simp only [Act.eval, Array.getD_eq_getD_getElem?] at e2 e12
        have hbx := (hm : Mem wb w ((pts (w0.heap.size + 1) 41 [.pointer (some ⟨gl, 0, none⟩)] * (pts (w0.heap.size + 1 + 1) 4 [.bool av] * R2)) * R')).left
        have q0 := hbx.cell 0
        have f0 := hbx.frozen 0
        simp only [List.getElem?_cons_zero] at q0
        refine ⟨w.setCell ⟨w0.heap.size + 1, 0, none⟩ (.pointer (some ⟨gl, 0, none⟩)), ?_, ?_⟩
        · simp [execOp, resolve, invoke, builtin, go_sem, e2, e12, q0, f0]
        · have hs := (hm : Mem wb w ((pts (w0.heap.size + 1) 41 [.pointer (some ⟨gl, 0, none⟩)] * (pts (w0.heap.size + 1 + 1) 4 [.bool av] * R2)) * R')).eq (sep_assoc _ _ _) |>.setCell 0 (.pointer (some ⟨gl, 0, none⟩))
          show Mem wb _ ((pts (w0.heap.size + 1) 41 [.pointer (some ⟨gl, 0, none⟩)] * (pts (w0.heap.size + 1 + 1) 4 [.bool av] * R2)) * (emp * R'))
          rw [emp_sep, sep_assoc]
          exact hs
      · refine Fine2.store trivial rfl (fun L a w R' hL hw hm hmk hf => ?_)
        rw [eaten_none rfl, emp_sep] at hm
        have e3 : a.eval (.tmp 3) = (.pointer (some ⟨w0.heap.size + 1 + 1, 0, none⟩) : Value) := (hf 3 (by decide +kernel)).old (by kernel_rfl)
        have e13 : a.eval (.tmp 13) = (.bool av : Value) := (hf 13 (by decide +kernel)).new 1 (by kernel_rfl) (by kernel_rfl)
        simp only [Act.eval, Array.getD_eq_getD_getElem?] at e3 e13
        have hbx := (hm : Mem wb w ((pts (w0.heap.size + 1) 41 [.pointer (some ⟨gl, 0, none⟩)] * (pts (w0.heap.size + 1 + 1) 4 [.bool av] * R2)) * R')).left.right
        have q0 := hbx.cell 0
        have f0 := hbx.frozen 0
        simp only [List.getElem?_cons_zero] at q0
        refine ⟨w.setCell ⟨w0.heap.size + 1 + 1, 0, none⟩ (.bool av), ?_, ?_⟩
        · simp [execOp, resolve, invoke, builtin, go_sem, e3, e13, q0, f0]
        · have hs := ((hm : Mem wb w ((pts (w0.heap.size + 1) 41 [.pointer (some ⟨gl, 0, none⟩)] * (pts (w0.heap.size + 1 + 1) 4 [.bool av] * R2)) * R')).eq (by ac_rfl : _ = pts (w0.heap.size + 1 + 1) 4 [.bool av] * (pts (w0.heap.size + 1) 41 [.pointer (some ⟨gl, 0, none⟩)] * (R2 * R')))).setCell 0 (.bool av)
          show Mem wb _ ((pts (w0.heap.size + 1) 41 [.pointer (some ⟨gl, 0, none⟩)] * (pts (w0.heap.size + 1 + 1) 4 [.bool av] * R2)) * (emp * R'))
          rw [emp_sep]
          exact hs.eq (by ac_rfl)
      · refine Fine2.run trivial _ rfl (fun _ => rfl) rfl rfl (fun L a w R' hw hm hmk hf => ?_)
        skip
        simp [execOp, resolve, invoke, builtin, go_sem]
    · intro u w9 hu hm9
      have hL : u 4 = .nilIface := hu 4 4 rfl
      have hm8 : Mem wb w9 (pts (w0.heap.size + 1) 41 [.pointer (some ⟨gl, 0, none⟩)] * (pts (w0.heap.size + 1 + 1) 4 [.bool av] * R2)) := hm9.left
      have c1 := hm8.cell 0
      have c2 := hm8.p1.cell 0
      simp only [List.getElem?_cons_zero] at c1 c2
      have HF := hm8.right.right
      rw [HR2d.out] at HF
      have HF2 := hid HF
      simp only [putAll]
      rw [hL]
      clear hm9 hm8 hu hL HM HF
      go_simp
      go_wp2_with fail
      have hg : (logB g p .nilIface gl * (devAt T8 g D' * (pts w0.heap.size 40 [.pointer (some ⟨g, 0, none⟩)] * R))) = pts w0.heap.size 40 [.pointer (some ⟨g, 0, none⟩)] * (logB g p .nilIface gl * (devAt T8 g D' * R)) := by ac_rfl
      refine bodyPost_ret (v := .tuple #[.pointer (some ⟨gl, 0, none⟩), .bool av, .nilIface]) (by simp [results, Tryz.results18, go_sem, c1, c2]) rfl ?_
      rw [HIO.out]
      exact ⟨gl, rfl, (HF2.out.eq hg).right⟩
  · have hcn : (c != 0) = true := by simpa using hc
    have HC := hid hc
    unfold openB at hm
    rw [if_neg hc] at hm
    obtain ⟨⟨D', av, lv⟩, hm⟩ := Mem.exl.1 hm
    rw [sep_assoc, Mem.pur] at hm
    obtain ⟨hio, hm⟩ := hm
    dsimp only at hio hm
    have HIO := hid hio
    have HFA := hid (fault_any wb w2 _ hm ⟨#[79, 112, 101, 110]⟩ 0 c)
    clear hm hio hc
    go_wp2_with fail
    refine HFA.out.mono ?_
    rintro e w3 ⟨gf, rfl, hm3⟩
    dsimp only
    have hb1 := hm3.eq (by ac_rfl : _ = pts (w0.heap.size + 1) 41 [lv] * (pts (w0.heap.size + 1 + 1) 4 [.bool av] * (pts w0.heap.size 40 [.pointer (some ⟨g, 0, none⟩)] * (pts gf 55 [.string ⟨#[79, 112, 101, 110]⟩, .int .i64 0, .iface 49 (.int .i64 c)] * (devAt T8 g D' * R)))))
    have c1 := hb1.cell 0
    have f1 := hb1.frozen 0
    have c2 := hb1.p1.cell 0
    have f2 := hb1.p1.frozen 0
    simp only [List.getElem?_cons_zero] at c1 c2
    have hs1 := hb1.setCell 0 (.pointer none)
    have hs2 := hs1.p1.setCell 0 (.bool false)
    simp only [List.set_cons_zero] at hs2
    have HS := hid hs2
    clear hm3 hb1 hs1 hs2 HFA
    go_wp2_with fail
    have d1 := HS.out.p1.cell 0
    have d2 := HS.out.cell 0
    simp only [List.getElem?_cons_zero, List.set_cons_zero] at d1 d2
    refine bodyPost_ret (v := .tuple #[.pointer none, .bool false, .iface 53 (.pointer (some ⟨gf, 0, none⟩))]) (by simp [results, Tryz.results18, go_sem, d1, d2]) rfl ?_
    rw [HIO.out]
    exact ⟨_, rfl, HC.out, Mem.faultB.2 ⟨gf, rfl, HS.out.right.right.right⟩⟩
end Go.Proofs.YtpaebopmppbjbaaGreatDoor

/- The walk of wal's Clear. -/
set_option linter.unusedVariables false
set_option linter.unusedSimpArgs false
namespace Go.Le
open Go Go.RowKit
end Go.Le
namespace Go.Proofs.YtpaebopmppbjbaaGreatDoor
open Go Go.RowKit Go.Le

end Go.Proofs.YtpaebopmppbjbaaGreatDoor

/- The walks of wal's Clear, of Open and Clear of no disk, of Pages. -/
set_option linter.unusedVariables false
set_option linter.unusedSimpArgs false
namespace Go.Proofs.YtpaebopmppbjbaaGreatDoor
open Go Go.RowKit Go.Le
theorem Pages_any (wb w : World) (R : HP) (g p gl : Nat) (er : Value) (h : Mem wb w (logB g p er gl * R)) :
    Calls Tryz.prog 19 #[.pointer (some ⟨gl, 0, none⟩)] w fun e w' => e = .returned (.int .i64 (p : Int)) ∧ w = w' := by
  unfold logB at h
  have c0 := h.cell 0
  have c1 := h.cell 1
  have c2 := h.cell 2
  simp only [List.getElem?_cons_zero, List.getElem?_cons_succ] at c0 c1 c2
  clear h
  go_enter Tryz.func19, Tryz.ntmps19
  go_wp2
  go_ret
  exact ⟨rfl, rfl⟩
end Go.Proofs.YtpaebopmppbjbaaGreatDoor

/- The walk of wal's Read, where the disk answers. -/
set_option linter.unusedVariables false
set_option linter.unusedSimpArgs false
namespace Go.Le
open Go Go.RowKit
theorem Io.ok_and {α β : Type} {m : Io α} {f : α → Io β} {D D' : Dev} {b : β} (h : m.and f D = (.ok b, D')) : ∃ a D1, m D = (.ok a, D1) ∧ f a D1 = (.ok b, D') := by
  unfold Io.and at h
  match hm : m D with
  | (.ok a, D1) => rw [hm] at h; exact ⟨a, D1, rfl, h⟩
  | (.error e, D1) => rw [hm] at h; cases h
end Go.Le
namespace Go.Proofs.YtpaebopmppbjbaaGreatDoor
open Go Go.RowKit Go.Le

set_option maxRecDepth 20000 in
set_option maxHeartbeats 4000000 in
theorem Read1_ok (wb w0 : World) (R : HP) (g gl bl bn bo p n : Nat) (er ov : Value) (D : Dev) (h : Mem wb w0 (pts gl 86 [.pointer (some ⟨g, 0, none⟩), .int .i64 (p : Int), er] * (pts bl 41 [.pointer (some ⟨gl, 0, none⟩)] * (pts bn 3 [.int .i64 (n : Int)] * (pts bo 50 [ov] * (devAt T8 g D * R)))))) (hpl : D.pend.length ≤ 900000000) (hn : n ≤ 1000) (hp : p ≤ 1000) (pg : List UInt8) (D' : Dev) (hio : ioPage p n D = (.ok pg, D')) :
    Calls Tryz.prog 46 #[.pointer (some ⟨bl, 0, none⟩), .pointer (some ⟨bn, 0, none⟩), .pointer (some ⟨bo, 0, none⟩)] w0 fun e w' => e = .returned (.tuple #[]) ∧ D' = D ∧ pg.length = 1024 ∧
      Mem wb w' (pts gl 86 [.pointer (some ⟨g, 0, none⟩), .int .i64 (p : Int), er] * (pts bl 41 [.pointer (some ⟨gl, 0, none⟩)] * (pts bn 3 [.int .i64 (n : Int)] * (devAt T8 g D * R))) * ex fun x : Option Addr × Nat => pts bo 50 [.slice x.1 pg.length x.2] * row 5 1 x.1 pg.length x.2 (byts pg)) := by
  unfold ioPage at hio
  obtain ⟨xa, D1, h1, hio1⟩ := Io.ok_and hio
  obtain ⟨xb, D2, h2, hio2⟩ := Io.ok_and hio1
  clear hio hio1
  obtain rfl := (read_same h1).symm
  obtain rfl := (read_same h2).symm
  obtain ⟨hok, -⟩ := Mem.devAt.1 (h.eq (by ac_rfl) : Mem wb w0 (devAt T8 g D * (pts gl 86 [.pointer (some ⟨g, 0, none⟩), .int .i64 (p : Int), er] * (pts bl 41 [.pointer (some ⟨gl, 0, none⟩)] * (pts bn 3 [.int .i64 (n : Int)] * (pts bo 50 [ov] * R))))))
  have hxa := read_len hok h1
  have hxb := read_len hok h2
  cases hio2
  have hho : homeOf p n ≤ 10000 := by unfold homeOf; omega
  have HHO : Hid (∀ w, Calls Tryz.prog 47 #[(.agg #[.pointer (some ⟨g, 0, none⟩), .int .i64 (p : Int)]), .int .i64 (n : Int)] w fun e w' => e = .returned (.int .i64 ((homeOf p n : Nat) : Int)) ∧ Fr w.heap.size [] w w') := fun w => home_any w _ n p (by omega) (by omega)
  generalize homeOf p n = ho at *
  have HR1 : Hid (∀ w R', Mem wb w (devAt T8 g D * R') → Calls Tryz.prog 48 #[(.agg #[.pointer (some ⟨g, 0, none⟩), .int .i64 (p : Int)]), .int .i64 (ho : Int)] w (IoSays wb g R' (.ok xa, D) bytesB)) := by
    show ∀ w R', _
    intro w R' h
    rw [← h1]
    exact dread_any wb w R' g D h (by omega) ho (by omega) (p : Int)
  have HR2 : Hid (∀ w R', Mem wb w (devAt T8 g D * R') → Calls Tryz.prog 48 #[(.agg #[.pointer (some ⟨g, 0, none⟩), .int .i64 (p : Int)]), .int .i64 ((ho : Int) + 1)] w (IoSays wb g R' (.ok xb, D) bytesB)) := by
    show ∀ w R', _
    intro w R' h
    rw [← h2]
    have := dread_any wb w R' g D h (by omega) (ho + 1) (by omega) (p : Int)
    rw [show ((ho + 1 : Nat) : Int) = (ho : Int) + 1 by omega] at this
    exact this
  have WH : IntKind.i64.wrap ((ho : Int) + 1) = (ho : Int) + 1 := IntWalk.i64_in _ (by omega)
  have HWH := hid WH
  have HM := hid h
  have HX := hid (And.intro hxa hxb)
  obtain ⟨i8, hi8, hz8, hs8, hb8⟩ := info_parts u8info'
  have HI := hid (And.intro hi8 (And.intro hz8 (And.intro hs8 hb8)))
  clear h h1 h2 hok hxa hxb WH hi8 hz8 hs8 hb8
  go_enter Tryz.func46, Tryz.ntmps46
  go_wp2_with fail
  refine region_mem (by kernel_rfl) (V := fun jv x => match jv with | 0 => x = (.pointer (some ⟨gl, 0, none⟩) : Value) | 1 => x = (.pointer (some ⟨gl, 0, none⟩) : Value) | 2 => x = (.pointer (some ⟨gl, 0, none⟩) : Value) | 3 => x = (.agg #[.pointer (some ⟨g, 0, none⟩), .int .i64 (p : Int)] : Value) | 4 => x = (.int .i64 (n : Int) : Value) | 5 => x = (.int .i64 (ho : Int) : Value) | 6 => x = (.int .i64 (ho : Int) : Value) | _ => True) (A := (fun _ => (pts gl 86 [.pointer (some ⟨g, 0, none⟩), .int .i64 (p : Int), er] * (pts bl 41 [.pointer (some ⟨gl, 0, none⟩)] * (pts bn 3 [.int .i64 (n : Int)] * (pts bo 50 [ov] * (devAt T8 g D * R))))))) (Bs := []) HM.out (fun _ _ _ => rfl) (show ([] : List Nat).Nodup by decide) (by kernel_rfl) (by kernel_rfl) ?_ ?_
  · refine ⟨?_, ?_, ?_, ?_, ?_, ?_, ?_, trivial⟩
    · refine Fine2.run trivial _ rfl (fun _ => rfl) rfl rfl (fun L a w R' hw hm hmk hf => ?_)
      have e0 : a.eval (.tmp 0) = (.pointer (some ⟨bl, 0, none⟩) : Value) := (hf 0 (by decide +kernel)).old (by kernel_rfl)
      simp only [Act.eval, Array.getD_eq_getD_getElem?] at e0
      have hbx := hm.left.right
      have q0 := hbx.cell 0
      simp only [List.getElem?_cons_zero] at q0
      simp [execOp, resolve, invoke, builtin, go_sem, e0, q0]
    · refine Fine2.run trivial _ rfl (fun _ => rfl) rfl rfl (fun L a w R' hw hm hmk hf => ?_)
      have e4 : a.eval (.tmp 4) = (.pointer (some ⟨gl, 0, none⟩) : Value) := (hf 4 (by decide +kernel)).new 0 (by kernel_rfl) (by kernel_rfl)
      simp only [Act.eval, Array.getD_eq_getD_getElem?] at e4
      simp [execOp, resolve, invoke, builtin, go_sem, e4]
    · refine Fine2.run trivial _ rfl (fun _ => rfl) rfl rfl (fun L a w R' hw hm hmk hf => ?_)
      have e5 : a.eval (.tmp 5) = (.pointer (some ⟨gl, 0, none⟩) : Value) := (hf 5 (by decide +kernel)).new 1 (by kernel_rfl) (by kernel_rfl)
      simp only [Act.eval, Array.getD_eq_getD_getElem?] at e5
      simp [execOp, resolve, invoke, builtin, go_sem, e5]
    · refine Fine2.run trivial _ rfl (fun _ => rfl) rfl rfl (fun L a w R' hw hm hmk hf => ?_)
      have e6 : a.eval (.tmp 6) = (.pointer (some ⟨gl, 0, none⟩) : Value) := (hf 6 (by decide +kernel)).new 2 (by kernel_rfl) (by kernel_rfl)
      simp only [Act.eval, Array.getD_eq_getD_getElem?] at e6
      have hbx := hm.left
      have q0 := hbx.cell 0
      have q1 := hbx.cell 1
      simp only [List.getElem?_cons_zero, List.getElem?_cons_succ] at q0 q1
      simp [execOp, resolve, invoke, builtin, go_sem, e6, q0, q1]
    · refine Fine2.run trivial _ rfl (fun _ => rfl) rfl rfl (fun L a w R' hw hm hmk hf => ?_)
      have e1 : a.eval (.tmp 1) = (.pointer (some ⟨bn, 0, none⟩) : Value) := (hf 1 (by decide +kernel)).old (by kernel_rfl)
      simp only [Act.eval, Array.getD_eq_getD_getElem?] at e1
      have hbx := hm.left.right.right
      have q0 := hbx.cell 0
      simp only [List.getElem?_cons_zero] at q0
      simp [execOp, resolve, invoke, builtin, go_sem, e1, q0]
    · refine Fine2.call trivial rfl 47 #[(.agg #[.pointer (some ⟨g, 0, none⟩), .int .i64 (p : Int)]), .int .i64 (n : Int)] (fun a w hf => ?_) (fun L a w R' hL hw hm hmk hf => ?_)
      · have e7 : a.eval (.tmp 7) = (.agg #[.pointer (some ⟨g, 0, none⟩), .int .i64 (p : Int)] : Value) := (hf 7 (by decide +kernel)).new 3 (by kernel_rfl) (by kernel_rfl)
        have e8 : a.eval (.tmp 8) = (.int .i64 (n : Int) : Value) := (hf 8 (by decide +kernel)).new 4 (by kernel_rfl) (by kernel_rfl)
        simp only [Act.eval, Array.getD_eq_getD_getElem?] at e7 e8
        simp [execOp, resolve, invoke, go_sem, e7, e8]
      · refine (HHO.out w).mono ?_
        rintro e w' ⟨rfl, hf'⟩
        refine ⟨_, rfl, rfl, ?_⟩
        show Mem wb w' ((pts gl 86 [.pointer (some ⟨g, 0, none⟩), .int .i64 (p : Int), er] * (pts bl 41 [.pointer (some ⟨gl, 0, none⟩)] * (pts bn 3 [.int .i64 (n : Int)] * (pts bo 50 [ov] * (devAt T8 g D * R))))) * (emp * R'))
        rw [emp_sep]
        exact hm.fr hf'
    · refine Fine2.run trivial _ rfl (fun _ => rfl) rfl rfl (fun L a w R' hw hm hmk hf => ?_)
      have e9 : a.eval (.tmp 9) = (.int .i64 (ho : Int) : Value) := (hf 9 (by decide +kernel)).new 5 (by kernel_rfl) (by kernel_rfl)
      simp only [Act.eval, Array.getD_eq_getD_getElem?] at e9
      simp [execOp, resolve, invoke, builtin, go_sem, e9]
  · intro u w9 hu hm9
    have h3 : u 3 = .int .i64 (ho : Int) := hu 3 6 rfl
    have HM2 := hid (hm9.left.eq (by ac_rfl) : Mem wb w9 (pts gl 86 [.pointer (some ⟨g, 0, none⟩), .int .i64 (p : Int), er] * (pts bl 41 [.pointer (some ⟨gl, 0, none⟩)] * (pts bn 3 [.int .i64 (n : Int)] * (devAt T8 g D * R))) * pts bo 50 [ov]))
    simp only [putAll]
    rw [h3]
    clear hm9 hu h3 HM
    go_simp
    go_wp2_with fail
    have HM := HM2
    have WH := HWH.out
    obtain ⟨hxa, hxb⟩ := HX.out
    obtain ⟨hi8, hz8, hs8, hb8⟩ := HI.out
    refine region_mem (by kernel_rfl) (V := fun jv x => match jv with | 0 => x = (.pointer (some ⟨gl, 0, none⟩) : Value) | 1 => x = (.pointer (some ⟨gl, 0, none⟩) : Value) | 2 => x = (.pointer (some ⟨gl, 0, none⟩) : Value) | 3 => x = (.agg #[.pointer (some ⟨g, 0, none⟩), .int .i64 (p : Int)] : Value) | 4 => x = (.int .i64 (ho : Int) : Value) | 5 => ∃ a2 c2, x = (.slice a2 xa.length c2 : Value) | 6 => x = (.pointer (some ⟨gl, 0, none⟩) : Value) | 7 => x = (.pointer (some ⟨gl, 0, none⟩) : Value) | 8 => x = (.pointer (some ⟨gl, 0, none⟩) : Value) | 9 => x = (.agg #[.pointer (some ⟨g, 0, none⟩), .int .i64 (p : Int)] : Value) | 10 => x = (.int .i64 (ho : Int) : Value) | 11 => x = (.int .i64 ((ho : Int) + 1) : Value) | 12 => ∃ a2 c2, x = (.slice a2 xb.length c2 : Value) | 13 => ∃ a2 c2, x = (.slice a2 (xa ++ xb).length c2 : Value) | 14 => x = undef | _ => True) (A := (fun L => (pts gl 86 [.pointer (some ⟨g, 0, none⟩), .int .i64 (p : Int), er] * (pts bl 41 [.pointer (some ⟨gl, 0, none⟩)] * (pts bn 3 [.int .i64 (n : Int)] * (devAt T8 g D * R)))) * (if L 14 then (ex fun x : Option Addr × Nat => pts bo 50 [.slice x.1 (xa ++ xb).length x.2] * row 5 1 x.1 (xa ++ xb).length x.2 (byts (xa ++ xb))) else pts bo 50 [ov]))) (Bs := [(5, some 13, bytesB xa), (12, none, bytesB xb), (13, some 14, bytesB (xa ++ xb))]) HM.out (fun L L' h => by show _ * (if L 14 then _ else _) = _ * (if L' 14 then _ else _); rw [h 14 (by decide)]) (show ([5, 12, 13] : List Nat).Nodup by decide) (by kernel_rfl) (by kernel_rfl) ?_ ?_
    · refine ⟨?_, ?_, ?_, ?_, ?_, ?_, ?_, ?_, ?_, ?_, ?_, ?_, ?_, ?_, ?_, trivial⟩
      · refine Fine2.run trivial _ rfl (fun _ => rfl) rfl rfl (fun L a w R' hw hm hmk hf => ?_)
        have e0 : a.eval (.tmp 0) = (.pointer (some ⟨bl, 0, none⟩) : Value) := (hf 0 (by decide +kernel)).old (by kernel_rfl)
        simp only [Act.eval, Array.getD_eq_getD_getElem?] at e0
        have hbx := hm.left.left.right
        have q0 := hbx.cell 0
        simp only [List.getElem?_cons_zero] at q0
        simp [execOp, resolve, invoke, builtin, go_sem, e0, q0]
      · refine Fine2.run trivial _ rfl (fun _ => rfl) rfl rfl (fun L a w R' hw hm hmk hf => ?_)
        have e10 : a.eval (.tmp 10) = (.pointer (some ⟨gl, 0, none⟩) : Value) := (hf 10 (by decide +kernel)).new 0 (by kernel_rfl) (by kernel_rfl)
        simp only [Act.eval, Array.getD_eq_getD_getElem?] at e10
        simp [execOp, resolve, invoke, builtin, go_sem, e10]
      · refine Fine2.run trivial _ rfl (fun _ => rfl) rfl rfl (fun L a w R' hw hm hmk hf => ?_)
        have e11 : a.eval (.tmp 11) = (.pointer (some ⟨gl, 0, none⟩) : Value) := (hf 11 (by decide +kernel)).new 1 (by kernel_rfl) (by kernel_rfl)
        simp only [Act.eval, Array.getD_eq_getD_getElem?] at e11
        simp [execOp, resolve, invoke, builtin, go_sem, e11]
      · refine Fine2.run trivial _ rfl (fun _ => rfl) rfl rfl (fun L a w R' hw hm hmk hf => ?_)
        have e12 : a.eval (.tmp 12) = (.pointer (some ⟨gl, 0, none⟩) : Value) := (hf 12 (by decide +kernel)).new 2 (by kernel_rfl) (by kernel_rfl)
        simp only [Act.eval, Array.getD_eq_getD_getElem?] at e12
        have hbx := hm.left.left
        have q0 := hbx.cell 0
        have q1 := hbx.cell 1
        simp only [List.getElem?_cons_zero, List.getElem?_cons_succ] at q0 q1
        simp [execOp, resolve, invoke, builtin, go_sem, e12, q0, q1]
      · refine Fine2.run trivial _ rfl (fun _ => rfl) rfl rfl (fun L a w R' hw hm hmk hf => ?_)
        have e3 : a.eval (.tmp 3) = (.int .i64 (ho : Int) : Value) := (hf 3 (by decide +kernel)).old (by kernel_rfl)
        simp only [Act.eval, Array.getD_eq_getD_getElem?] at e3
        simp [execOp, resolve, invoke, builtin, go_sem, e3]
      · refine Fine2.call trivial rfl 48 #[(.agg #[.pointer (some ⟨g, 0, none⟩), .int .i64 (p : Int)]), (.int .i64 (ho : Int))] (fun a w hf => ?_) (fun L a w R' hL hw hm hmk hf => ?_)
        · have e13 : a.eval (.tmp 13) = (.agg #[.pointer (some ⟨g, 0, none⟩), .int .i64 (p : Int)] : Value) := (hf 13 (by decide +kernel)).new 3 (by kernel_rfl) (by kernel_rfl)
          have e14 : a.eval (.tmp 14) = (.int .i64 (ho : Int) : Value) := (hf 14 (by decide +kernel)).new 4 (by kernel_rfl) (by kernel_rfl)
          simp only [Act.eval, Array.getD_eq_getD_getElem?] at e13 e14
          simp [execOp, resolve, invoke, go_sem, e13, e14]
        · have hm : Mem wb w ((pts gl 86 [.pointer (some ⟨g, 0, none⟩), .int .i64 (p : Int), er] * (pts bl 41 [.pointer (some ⟨gl, 0, none⟩)] * (pts bn 3 [.int .i64 (n : Int)] * (devAt T8 g D * R)))) * (if L 14 then (ex fun x : Option Addr × Nat => pts bo 50 [.slice x.1 (xa ++ xb).length x.2] * row 5 1 x.1 (xa ++ xb).length x.2 (byts (xa ++ xb))) else pts bo 50 [ov]) * R') := hm
          refine (HR1.out w (pts gl 86 [.pointer (some ⟨g, 0, none⟩), .int .i64 (p : Int), er] * (pts bl 41 [.pointer (some ⟨gl, 0, none⟩)] * (pts bn 3 [.int .i64 (n : Int)] * (R * ((if L 14 then (ex fun x : Option Addr × Nat => pts bo 50 [.slice x.1 (xa ++ xb).length x.2] * row 5 1 x.1 (xa ++ xb).length x.2 (byts (xa ++ xb))) else pts bo 50 [ov]) * R'))))) (hm.eq (by ac_rfl))).mono ?_
          intro e w' hs'
          obtain ⟨v, rfl, hm2⟩ := hs'.ok rfl
          obtain ⟨a2, c2, hv, -⟩ := Mem.rowB.1 hm2
          refine ⟨v, rfl, ⟨a2, c2, hv⟩, ?_⟩
          show Mem wb w' ((pts gl 86 [.pointer (some ⟨g, 0, none⟩), .int .i64 (p : Int), er] * (pts bl 41 [.pointer (some ⟨gl, 0, none⟩)] * (pts bn 3 [.int .i64 (n : Int)] * (devAt T8 g D * R)))) * (if doneSet L 5 14 then (ex fun x : Option Addr × Nat => pts bo 50 [.slice x.1 (xa ++ xb).length x.2] * row 5 1 x.1 (xa ++ xb).length x.2 (byts (xa ++ xb))) else pts bo 50 [ov]) * (bytesB xa v * R'))
          rw [show doneSet L 5 14 = L 14 from rfl]
          exact hm2.eq (by ac_rfl)
      · refine Fine2.run trivial _ rfl (fun _ => rfl) rfl rfl (fun L a w R' hw hm hmk hf => ?_)
        have e0 : a.eval (.tmp 0) = (.pointer (some ⟨bl, 0, none⟩) : Value) := (hf 0 (by decide +kernel)).old (by kernel_rfl)
        simp only [Act.eval, Array.getD_eq_getD_getElem?] at e0
        have hbx := hm.left.left.right
        have q0 := hbx.cell 0
        simp only [List.getElem?_cons_zero] at q0
        simp [execOp, resolve, invoke, builtin, go_sem, e0, q0]
      · refine Fine2.run trivial _ rfl (fun _ => rfl) rfl rfl (fun L a w R' hw hm hmk hf => ?_)
        have e16 : a.eval (.tmp 16) = (.pointer (some ⟨gl, 0, none⟩) : Value) := (hf 16 (by decide +kernel)).new 6 (by kernel_rfl) (by kernel_rfl)
        simp only [Act.eval, Array.getD_eq_getD_getElem?] at e16
        simp [execOp, resolve, invoke, builtin, go_sem, e16]
      · refine Fine2.run trivial _ rfl (fun _ => rfl) rfl rfl (fun L a w R' hw hm hmk hf => ?_)
        have e17 : a.eval (.tmp 17) = (.pointer (some ⟨gl, 0, none⟩) : Value) := (hf 17 (by decide +kernel)).new 7 (by kernel_rfl) (by kernel_rfl)
        simp only [Act.eval, Array.getD_eq_getD_getElem?] at e17
        simp [execOp, resolve, invoke, builtin, go_sem, e17]
      · refine Fine2.run trivial _ rfl (fun _ => rfl) rfl rfl (fun L a w R' hw hm hmk hf => ?_)
        have e18 : a.eval (.tmp 18) = (.pointer (some ⟨gl, 0, none⟩) : Value) := (hf 18 (by decide +kernel)).new 8 (by kernel_rfl) (by kernel_rfl)
        simp only [Act.eval, Array.getD_eq_getD_getElem?] at e18
        have hbx := hm.left.left
        have q0 := hbx.cell 0
        have q1 := hbx.cell 1
        simp only [List.getElem?_cons_zero, List.getElem?_cons_succ] at q0 q1
        simp [execOp, resolve, invoke, builtin, go_sem, e18, q0, q1]
      · refine Fine2.run trivial _ rfl (fun _ => rfl) rfl rfl (fun L a w R' hw hm hmk hf => ?_)
        have e3 : a.eval (.tmp 3) = (.int .i64 (ho : Int) : Value) := (hf 3 (by decide +kernel)).old (by kernel_rfl)
        simp only [Act.eval, Array.getD_eq_getD_getElem?] at e3
        simp [execOp, resolve, invoke, builtin, go_sem, e3]
      · refine Fine2.run trivial _ rfl (fun _ => rfl) rfl rfl (fun L a w R' hw hm hmk hf => ?_)
        have e20 : a.eval (.tmp 20) = (.int .i64 (ho : Int) : Value) := (hf 20 (by decide +kernel)).new 10 (by kernel_rfl) (by kernel_rfl)
        simp only [Act.eval, Array.getD_eq_getD_getElem?] at e20
        simp [execOp, resolve, invoke, builtin, go_sem, e20, WH]
      · refine Fine2.call trivial rfl 48 #[(.agg #[.pointer (some ⟨g, 0, none⟩), .int .i64 (p : Int)]), (.int .i64 ((ho : Int) + 1))] (fun a w hf => ?_) (fun L a w R' hL hw hm hmk hf => ?_)
        · have e19 : a.eval (.tmp 19) = (.agg #[.pointer (some ⟨g, 0, none⟩), .int .i64 (p : Int)] : Value) := (hf 19 (by decide +kernel)).new 9 (by kernel_rfl) (by kernel_rfl)
          have e21 : a.eval (.tmp 21) = (.int .i64 ((ho : Int) + 1) : Value) := (hf 21 (by decide +kernel)).new 11 (by kernel_rfl) (by kernel_rfl)
          simp only [Act.eval, Array.getD_eq_getD_getElem?] at e19 e21
          simp [execOp, resolve, invoke, go_sem, e19, e21]
        · have hm : Mem wb w ((pts gl 86 [.pointer (some ⟨g, 0, none⟩), .int .i64 (p : Int), er] * (pts bl 41 [.pointer (some ⟨gl, 0, none⟩)] * (pts bn 3 [.int .i64 (n : Int)] * (devAt T8 g D * R)))) * (if L 14 then (ex fun x : Option Addr × Nat => pts bo 50 [.slice x.1 (xa ++ xb).length x.2] * row 5 1 x.1 (xa ++ xb).length x.2 (byts (xa ++ xb))) else pts bo 50 [ov]) * R') := hm
          refine (HR2.out w (pts gl 86 [.pointer (some ⟨g, 0, none⟩), .int .i64 (p : Int), er] * (pts bl 41 [.pointer (some ⟨gl, 0, none⟩)] * (pts bn 3 [.int .i64 (n : Int)] * (R * ((if L 14 then (ex fun x : Option Addr × Nat => pts bo 50 [.slice x.1 (xa ++ xb).length x.2] * row 5 1 x.1 (xa ++ xb).length x.2 (byts (xa ++ xb))) else pts bo 50 [ov]) * R'))))) (hm.eq (by ac_rfl))).mono ?_
          intro e w' hs'
          obtain ⟨v, rfl, hm2⟩ := hs'.ok rfl
          obtain ⟨a2, c2, hv, -⟩ := Mem.rowB.1 hm2
          refine ⟨v, rfl, ⟨a2, c2, hv⟩, ?_⟩
          show Mem wb w' ((pts gl 86 [.pointer (some ⟨g, 0, none⟩), .int .i64 (p : Int), er] * (pts bl 41 [.pointer (some ⟨gl, 0, none⟩)] * (pts bn 3 [.int .i64 (n : Int)] * (devAt T8 g D * R)))) * (if doneSet L 12 14 then (ex fun x : Option Addr × Nat => pts bo 50 [.slice x.1 (xa ++ xb).length x.2] * row 5 1 x.1 (xa ++ xb).length x.2 (byts (xa ++ xb))) else pts bo 50 [ov]) * (bytesB xb v * R'))
          rw [show doneSet L 12 14 = L 14 from rfl]
          exact hm2.eq (by ac_rfl)
      · refine Fine2.open trivial (fun L a w R' hL hw hm hmk hf => ?_)
        have hm' : Mem wb w ((pts gl 86 [.pointer (some ⟨g, 0, none⟩), .int .i64 (p : Int), er] * (pts bl 41 [.pointer (some ⟨gl, 0, none⟩)] * (pts bn 3 [.int .i64 (n : Int)] * (devAt T8 g D * R)))) * (if L 14 then (ex fun x : Option Addr × Nat => pts bo 50 [.slice x.1 (xa ++ xb).length x.2] * row 5 1 x.1 (xa ++ xb).length x.2 (byts (xa ++ xb))) else pts bo 50 [ov]) * ((bytesB xa (a.eval (.tmp 15)) * (emp * (emp * emp))) * R')) := hm
        rw [sep_emp, sep_emp, sep_emp] at hm'
        obtain ⟨a1, c1, e15, m1⟩ := Mem.rowB.1 hm'.p1
        obtain ⟨R3, hR3⟩ := hmk [false, true, false] (by kernel_rfl)
        have hm2 := m1
        rw [hR3] at hm2
        obtain ⟨a2, c2, y, m2⟩ := Mem.rowB.1 (show Mem wb w (_ * (_ * (_ * R3))) from hm2).p2
        have e22 : a.eval (.tmp 22) = .slice a2 _ c2 := y
        have hsl := m2.row_sl
        obtain ⟨a3, c3, w', hr, hd, -, -⟩ := m1.append (P := Tryz.prog) 50 50 Tryz.underlying50 hi8 hz8 hs8 hb8 rfl (by omega) (by rw [byts_length]; omega) (news_sl hsl) (news_nil hsl) (byts_oneCell _) (by omega) (by omega)
        rw [← byts_append, ← List.length_append] at hd
        rw [← List.length_append] at hr
        refine ⟨.slice a3 (xa ++ xb).length c3, w', ?_, ⟨a3, c3, rfl⟩, ?_⟩
        · have e15 : a.eval (.tmp 15) = .slice a1 xa.length c1 := e15
          have e22 : a.eval (.tmp 22) = .slice a2 xb.length c2 := e22
          simp [execOp, resolve, invoke, builtin, e15, e22, hr, Result.andThen]
        · show Mem wb w' ((pts gl 86 [.pointer (some ⟨g, 0, none⟩), .int .i64 (p : Int), er] * (pts bl 41 [.pointer (some ⟨gl, 0, none⟩)] * (pts bn 3 [.int .i64 (n : Int)] * (devAt T8 g D * R)))) * (if doneSet L 13 14 then (ex fun x : Option Addr × Nat => pts bo 50 [.slice x.1 (xa ++ xb).length x.2] * row 5 1 x.1 (xa ++ xb).length x.2 (byts (xa ++ xb))) else pts bo 50 [ov]) * (bytesB (xa ++ xb) (.slice a3 (xa ++ xb).length c3) * R'))
          rw [show doneSet L 13 14 = L 14 from rfl]
          have h9 : Mem wb w' (bytesB (xa ++ xb) (.slice a3 (xa ++ xb).length c3) * ((pts gl 86 [.pointer (some ⟨g, 0, none⟩), .int .i64 (p : Int), er] * (pts bl 41 [.pointer (some ⟨gl, 0, none⟩)] * (pts bn 3 [.int .i64 (n : Int)] * (devAt T8 g D * R)))) * (if L 14 then (ex fun x : Option Addr × Nat => pts bo 50 [.slice x.1 (xa ++ xb).length x.2] * row 5 1 x.1 (xa ++ xb).length x.2 (byts (xa ++ xb))) else pts bo 50 [ov]) * R')) := Mem.rowB.2 ⟨a3, c3, rfl, hd.duo_row⟩
          exact h9.eq (by ac_rfl)
      · refine Fine2.store trivial rfl (fun L a w R' hL hw hm hmk hf => ?_)
        have hm' : Mem wb w ((pts gl 86 [.pointer (some ⟨g, 0, none⟩), .int .i64 (p : Int), er] * (pts bl 41 [.pointer (some ⟨gl, 0, none⟩)] * (pts bn 3 [.int .i64 (n : Int)] * (devAt T8 g D * R)))) * (if L 14 then (ex fun x : Option Addr × Nat => pts bo 50 [.slice x.1 (xa ++ xb).length x.2] * row 5 1 x.1 (xa ++ xb).length x.2 (byts (xa ++ xb))) else pts bo 50 [ov]) * ((emp * (emp * (bytesB (xa ++ xb) (a.eval (.tmp 23)) * emp))) * R')) := hm
        rw [hL, emp_sep, emp_sep, sep_emp] at hm'
        have hm' : Mem wb w ((pts gl 86 [.pointer (some ⟨g, 0, none⟩), .int .i64 (p : Int), er] * (pts bl 41 [.pointer (some ⟨gl, 0, none⟩)] * (pts bn 3 [.int .i64 (n : Int)] * (devAt T8 g D * R)))) * pts bo 50 [ov] * (bytesB (xa ++ xb) (a.eval (.tmp 23)) * R')) := hm'
        obtain ⟨a3, c3, e23, m1⟩ := Mem.rowB.1 hm'.p1
        have hb := m1.eq (by ac_rfl : _ = pts bo 50 [ov] * (row 5 1 a3 (xa ++ xb).length c3 (byts (xa ++ xb)) * ((pts gl 86 [.pointer (some ⟨g, 0, none⟩), .int .i64 (p : Int), er] * (pts bl 41 [.pointer (some ⟨gl, 0, none⟩)] * (pts bn 3 [.int .i64 (n : Int)] * (devAt T8 g D * R)))) * R')))
        have c0 := hb.cell 0
        have f0 := hb.frozen 0
        simp only [List.getElem?_cons_zero] at c0
        have hs2 := hb.setCell 0 (.slice a3 (xa ++ xb).length c3)
        have e2 : a.eval (.tmp 2) = (.pointer (some ⟨bo, 0, none⟩) : Value) := (hf 2 (by decide +kernel)).old (by kernel_rfl)
        simp only [Act.eval, Array.getD_eq_getD_getElem?] at e2 e23
        refine ⟨w.setCell ⟨bo, 0, none⟩ (.slice a3 (xa ++ xb).length c3), ?_, ?_⟩
        · simp only [execOp, go_sem]
          simp [go_sem, e2, e23, c0, f0]
        · show Mem wb _ ((pts gl 86 [.pointer (some ⟨g, 0, none⟩), .int .i64 (p : Int), er] * (pts bl 41 [.pointer (some ⟨gl, 0, none⟩)] * (pts bn 3 [.int .i64 (n : Int)] * (devAt T8 g D * R)))) * (if doneSet L 14 14 then (ex fun x : Option Addr × Nat => pts bo 50 [.slice x.1 (xa ++ xb).length x.2] * row 5 1 x.1 (xa ++ xb).length x.2 (byts (xa ++ xb))) else pts bo 50 [ov]) * (emp * R'))
          rw [show doneSet L 14 14 = true from rfl, emp_sep]
          show Mem wb _ ((pts gl 86 [.pointer (some ⟨g, 0, none⟩), .int .i64 (p : Int), er] * (pts bl 41 [.pointer (some ⟨gl, 0, none⟩)] * (pts bn 3 [.int .i64 (n : Int)] * (devAt T8 g D * R)))) * (ex fun x : Option Addr × Nat => pts bo 50 [.slice x.1 (xa ++ xb).length x.2] * row 5 1 x.1 (xa ++ xb).length x.2 (byts (xa ++ xb))) * R')
          have h9 : Mem wb (w.setCell ⟨bo, 0, none⟩ (.slice a3 (xa ++ xb).length c3)) ((ex fun x : Option Addr × Nat => pts bo 50 [.slice x.1 (xa ++ xb).length x.2] * row 5 1 x.1 (xa ++ xb).length x.2 (byts (xa ++ xb))) * ((pts gl 86 [.pointer (some ⟨g, 0, none⟩), .int .i64 (p : Int), er] * (pts bl 41 [.pointer (some ⟨gl, 0, none⟩)] * (pts bn 3 [.int .i64 (n : Int)] * (devAt T8 g D * R)))) * R')) := Mem.exl.2 ⟨(a3, c3), hs2.eq (by simp only [List.set_cons_zero]; ac_rfl)⟩
          exact h9.eq (by ac_rfl)
    · intro u w9 hu hm9
      have hm8 : Mem wb w9 ((pts gl 86 [.pointer (some ⟨g, 0, none⟩), .int .i64 (p : Int), er] * (pts bl 41 [.pointer (some ⟨gl, 0, none⟩)] * (pts bn 3 [.int .i64 (n : Int)] * (devAt T8 g D * R)))) * (ex fun x : Option Addr × Nat => pts bo 50 [.slice x.1 (xa ++ xb).length x.2] * row 5 1 x.1 (xa ++ xb).length x.2 (byts (xa ++ xb)))) := hm9.left
      have HF := hid hm8
      simp only [putAll]
      clear hm9 hm8 hu HM HM2 WH hi8 hz8 hs8 hb8 hxa hxb
      go_simp
      go_end0
      exact ⟨rfl, trivial, by have := HX.out; simp [this.1, this.2], HF.out⟩
end Go.Proofs.YtpaebopmppbjbaaGreatDoor

/- The walk of wal's Read, where the disk answers. -/
set_option linter.unusedVariables false
set_option linter.unusedSimpArgs false
namespace Go.Proofs.YtpaebopmppbjbaaGreatDoor
open Go Go.RowKit Go.Le
theorem Clipb_any (w : World) (a : Option Addr) (n c : Nat) (hn : n ≤ c) (hc : c ≤ 9223372036854775807) :
    Calls Tryz.prog 49 #[.slice a n c] w fun e w' => e = .returned (.slice a n n) ∧ w = w' := by
  have h1 : (n : Int) ≤ (c : Int) := by omega
  have h2 : ¬ c < n := by omega
  go_enter Tryz.func49, Tryz.ntmps49
  go_wp2
  go_ret
  by_cases h0 : c = 0
  · have : n = 0 := by omega
    subst this; subst h0
    exact ⟨rfl, rfl⟩
  · exact ⟨rfl, rfl⟩
theorem enters57 (args : Array Value) (w : World) : (callFunc 46 args).run Tryz.prog w = .ok (.enter 46 args) w :=
  enters_body Tryz.func46 (by kernel_rfl) rfl args w

set_option maxRecDepth 20000 in
set_option maxHeartbeats 4000000 in
theorem Read_ok (wb w0 : World) (R : HP) (g gl p n : Nat) (D : Dev) (h : Mem wb w0 (logB g p .nilIface gl * (devAt T8 g D * R))) (hpl : D.pend.length ≤ 900000000) (hn : n < p) (hp : p ≤ 1000) (pg : List UInt8) (D' : Dev) (hio : ioPage p n D = (.ok pg, D')) :
    Calls Tryz.prog 21 #[.pointer (some ⟨gl, 0, none⟩), .int .i64 (n : Int)] w0 fun e w' => ∃ a, e = .returned (.tuple #[.slice a pg.length pg.length, .nilIface]) ∧ D' = D ∧ pg.length = 1024 ∧
      Mem wb w' (row 5 1 a pg.length pg.length (byts pg) * (logB g p .nilIface gl * (devAt T8 g D * R))) := by
  have hmf : ∀ (fn : Fn) (first cap : Array Value) (w : World), (Instr.makeFunc fn first cap).run Tryz.prog w = .ok (.func fn first cap) w := fun _ _ _ _ => rfl
  have h1 := h.alloc [.pointer (some ⟨gl, 0, none⟩)] 41
  have h2 := h1.alloc [.int .i64 (n : Int)] 3
  have s1 : (w0.alloc (.cells #[.pointer (some ⟨gl, 0, none⟩)] 41)).heap.size = w0.heap.size + 1 := by simp
  have hm0 := h2.eq (by unfold logB; rw [← s1]; ac_rfl : _ = (pts gl 86 [.pointer (some ⟨g, 0, none⟩), .int .i64 (p : Int), .nilIface] * (pts w0.heap.size 41 [.pointer (some ⟨gl, 0, none⟩)] * (pts (w0.heap.size + 1) 3 [.int .i64 (n : Int)] * (devAt T8 g D * R)))))
  have c1 := hm0.cell 1
  have c2 := hm0.cell 2
  have d0 := hm0.p1.cell 0
  simp only [List.getElem?_cons_zero, List.getElem?_cons_succ] at c1 c2 d0
  have HM := hid hm0
  have hpn : ¬ (p : Int) ≤ (n : Int) := by omega
  have HIO := hid hio
  clear h h1 h2 s1 hm0 hio
  go_enter Tryz.func21, Tryz.ntmps21
  go_wp2_with fail
  refine region_mem (by kernel_rfl) (V := fun jv x => match jv with | 0 => x = (.int .i64 (n : Int) : Value) | 1 => x = (.bool false : Value) | 2 => x = (.bool false : Value) | 3 => x = (.int .i64 (n : Int) : Value) | 4 => x = (.pointer (some ⟨gl, 0, none⟩) : Value) | 5 => x = (.pointer (some ⟨gl, 0, none⟩) : Value) | 6 => x = (.pointer (some ⟨gl, 0, none⟩) : Value) | 7 => x = (.pointer (some ⟨gl, 1, none⟩) : Value) | 8 => x = (.int .i64 (p : Int) : Value) | 9 => x = (.bool false : Value) | 10 => x = (.bool false : Value) | _ => True) (A := (fun _ => (pts gl 86 [.pointer (some ⟨g, 0, none⟩), .int .i64 (p : Int), .nilIface] * (pts w0.heap.size 41 [.pointer (some ⟨gl, 0, none⟩)] * (pts (w0.heap.size + 1) 3 [.int .i64 (n : Int)] * (devAt T8 g D * R)))))) (Bs := []) HM.out (fun _ _ _ => rfl) (show ([] : List Nat).Nodup by decide) (by kernel_rfl) (by kernel_rfl) ?_ ?_
  · refine ⟨?_, ?_, ?_, ?_, ?_, ?_, ?_, ?_, ?_, ?_, ?_, trivial⟩
    · refine Fine2.run trivial _ rfl (fun _ => rfl) rfl rfl (fun L a w R' hw hm hmk hf => ?_)
      have e3 : a.eval (.tmp 3) = (.pointer (some ⟨w0.heap.size + 1, 0, none⟩) : Value) := (hf 3 (by decide +kernel)).old (by kernel_rfl)
      simp only [Act.eval, Array.getD_eq_getD_getElem?] at e3
      have hbx := hm.left.right.right
      have q0 := hbx.cell 0
      simp only [List.getElem?_cons_zero] at q0
      simp [execOp, resolve, invoke, builtin, go_sem, e3, q0]
    · refine Fine2.run trivial _ rfl (fun _ => rfl) rfl rfl (fun L a w R' hw hm hmk hf => ?_)
      have e14 : a.eval (.tmp 14) = (.int .i64 (n : Int) : Value) := (hf 14 (by decide +kernel)).new 0 (by kernel_rfl) (by kernel_rfl)
      simp only [Act.eval, Array.getD_eq_getD_getElem?] at e14
      simp [execOp, resolve, invoke, builtin, go_sem, e14]
    · refine Fine2.run trivial _ rfl (fun _ => rfl) rfl rfl (fun L a w R' hw hm hmk hf => ?_)
      have e15 : a.eval (.tmp 15) = (.bool false : Value) := (hf 15 (by decide +kernel)).new 1 (by kernel_rfl) (by kernel_rfl)
      simp only [Act.eval, Array.getD_eq_getD_getElem?] at e15
      simp [execOp, resolve, invoke, builtin, go_sem, e15]
    · refine Fine2.run ⟨_, rfl, by kernel_rfl, by kernel_rfl, fun _ h => h⟩ _ rfl (fun _ => rfl) rfl rfl (fun L a w R' hw hm hmk hf => ?_)
      have e3 : a.eval (.tmp 3) = (.pointer (some ⟨w0.heap.size + 1, 0, none⟩) : Value) := (hf 3 (by decide +kernel)).old (by kernel_rfl)
      simp only [Act.eval, Array.getD_eq_getD_getElem?] at e3
      have hbx := hm.left.right.right
      have q0 := hbx.cell 0
      simp only [List.getElem?_cons_zero] at q0
      simp [execOp, resolve, invoke, builtin, go_sem, e3, q0]
    · refine Fine2.run ⟨_, rfl, by kernel_rfl, by kernel_rfl, fun _ h => h⟩ _ rfl (fun _ => rfl) rfl rfl (fun L a w R' hw hm hmk hf => ?_)
      have e2 : a.eval (.tmp 2) = (.pointer (some ⟨w0.heap.size, 0, none⟩) : Value) := (hf 2 (by decide +kernel)).old (by kernel_rfl)
      simp only [Act.eval, Array.getD_eq_getD_getElem?] at e2
      have hbx := hm.left.right
      have q0 := hbx.cell 0
      simp only [List.getElem?_cons_zero] at q0
      simp [execOp, resolve, invoke, builtin, go_sem, e2, q0]
    · refine Fine2.run ⟨_, rfl, by kernel_rfl, by kernel_rfl, fun _ h => h⟩ _ rfl (fun _ => rfl) rfl rfl (fun L a w R' hw hm hmk hf => ?_)
      have e18 : a.eval (.tmp 18) = (.pointer (some ⟨gl, 0, none⟩) : Value) := (hf 18 (by decide +kernel)).new 4 (by kernel_rfl) (by kernel_rfl)
      simp only [Act.eval, Array.getD_eq_getD_getElem?] at e18
      simp [execOp, resolve, invoke, builtin, go_sem, e18]
    · refine Fine2.run ⟨_, rfl, by kernel_rfl, by kernel_rfl, fun _ h => h⟩ _ rfl (fun _ => rfl) rfl rfl (fun L a w R' hw hm hmk hf => ?_)
      have e19 : a.eval (.tmp 19) = (.pointer (some ⟨gl, 0, none⟩) : Value) := (hf 19 (by decide +kernel)).new 5 (by kernel_rfl) (by kernel_rfl)
      simp only [Act.eval, Array.getD_eq_getD_getElem?] at e19
      simp [execOp, resolve, invoke, builtin, go_sem, e19]
    · refine Fine2.run ⟨_, rfl, by kernel_rfl, by kernel_rfl, fun _ h => h⟩ _ rfl (fun _ => rfl) rfl rfl (fun L a w R' hw hm hmk hf => ?_)
      have e20 : a.eval (.tmp 20) = (.pointer (some ⟨gl, 0, none⟩) : Value) := (hf 20 (by decide +kernel)).new 6 (by kernel_rfl) (by kernel_rfl)
      simp only [Act.eval, Array.getD_eq_getD_getElem?] at e20
      simp [execOp, resolve, invoke, builtin, go_sem, e20]
    · refine Fine2.run ⟨_, rfl, by kernel_rfl, by kernel_rfl, fun _ h => h⟩ _ rfl (fun _ => rfl) rfl rfl (fun L a w R' hw hm hmk hf => ?_)
      have e21 : a.eval (.tmp 21) = (.pointer (some ⟨gl, 1, none⟩) : Value) := (hf 21 (by decide +kernel)).new 7 (by kernel_rfl) (by kernel_rfl)
      simp only [Act.eval, Array.getD_eq_getD_getElem?] at e21
      have hbx := hm.left
      have q1 := hbx.cell 1
      simp only [List.getElem?_cons_zero, List.getElem?_cons_succ] at q1
      simp [execOp, resolve, invoke, builtin, go_sem, e21, q1]
    · refine Fine2.run ⟨_, rfl, by kernel_rfl, by kernel_rfl, fun _ h => h⟩ _ rfl (fun _ => rfl) rfl rfl (fun L a w R' hw hm hmk hf => ?_)
      have e17 : a.eval (.tmp 17) = (.int .i64 (n : Int) : Value) := (hf 17 (by decide +kernel)).new 3 (by kernel_rfl) (by kernel_rfl)
      have e22 : a.eval (.tmp 22) = (.int .i64 (p : Int) : Value) := (hf 22 (by decide +kernel)).new 8 (by kernel_rfl) (by kernel_rfl)
      simp only [Act.eval, Array.getD_eq_getD_getElem?] at e17 e22
      simp [execOp, resolve, invoke, builtin, go_sem, e17, e22, hpn, hn]
    · refine Fine2.run trivial _ rfl (fun _ => rfl) rfl rfl (fun L a w R' hw hm hmk hf => ?_)
      have e16 : a.eval (.tmp 16) = (.bool false : Value) := (hf 16 (by decide +kernel)).new 2 (by kernel_rfl) (by kernel_rfl)
      have e23 : a.eval (.tmp 23) = (.bool false : Value) := (hf 23 (by decide +kernel)).new 9 (by kernel_rfl) (by kernel_rfl)
      simp only [Act.eval, Array.getD_eq_getD_getElem?] at e16 e23
      simp [execOp, resolve, invoke, builtin, go_sem, e16, e23]
  · intro u w9 hu hm9
    have hL : u 24 = .bool false := hu 24 10 rfl
    have hm8 : Mem wb w9 (pts gl 86 [.pointer (some ⟨g, 0, none⟩), .int .i64 (p : Int), .nilIface] * (pts w0.heap.size 41 [.pointer (some ⟨gl, 0, none⟩)] * (pts (w0.heap.size + 1) 3 [.int .i64 (n : Int)] * (devAt T8 g D * R)))) := hm9.left
    have hA := (hm8.alloc [.slice none 0 0] 50).eq (by ac_rfl : _ = (pts gl 86 [.pointer (some ⟨g, 0, none⟩), .int .i64 (p : Int), .nilIface] * (pts w0.heap.size 41 [.pointer (some ⟨gl, 0, none⟩)] * (pts (w0.heap.size + 1) 3 [.int .i64 (n : Int)] * (pts w9.heap.size 50 [.slice none 0 0] * devAt T8 g D)))) * R)
    have HCA := hid (caught_any wb _ (pts gl 86 [.pointer (some ⟨g, 0, none⟩), .int .i64 (p : Int), .nilIface] * (pts w0.heap.size 41 [.pointer (some ⟨gl, 0, none⟩)] * (pts (w0.heap.size + 1) 3 [.int .i64 (n : Int)] * (pts w9.heap.size 50 [.slice none 0 0] * devAt T8 g D)))) (fun c => pur (c = 0 ∧ D' = D ∧ pg.length = 1024) * (pts gl 86 [.pointer (some ⟨g, 0, none⟩), .int .i64 (p : Int), .nilIface] * (pts w0.heap.size 41 [.pointer (some ⟨gl, 0, none⟩)] * (pts (w0.heap.size + 1) 3 [.int .i64 (n : Int)] * devAt T8 g D)) * (ex fun x : Option Addr × Nat => pts w9.heap.size 50 [.slice x.1 pg.length x.2] * row 5 1 x.1 pg.length x.2 (byts pg)))) R hA 46 #[.pointer (some ⟨w0.heap.size, 0, none⟩), .pointer (some ⟨w0.heap.size + 1, 0, none⟩), .pointer (some ⟨w9.heap.size, 0, none⟩)] (fun w => enters57 _ w)
      (fun w1 R1 hm1 => (Read1_ok wb w1 R1 g gl _ _ _ p n .nilIface (.slice none 0 0) D (hm1.eq (by ac_rfl)) hpl (by omega) hp pg D' HIO.out).mono fun e w2 ⟨he, h3, h4, hm2⟩ => .inl ⟨he, by
        rw [sep_assoc, Mem.pur]
        exact ⟨⟨rfl, h3, h4⟩, hm2.eq (by ac_rfl)⟩⟩))
    simp only [putAll]
    rw [hL]
    clear hm9 hm8 hA hu hL HM
    go_simp
    go_wp2_with fail
    refine HCA.out.mono ?_
    rintro e w3 ⟨c, rfl, hm3⟩
    dsimp only
    rw [sep_assoc, Mem.pur] at hm3
    obtain ⟨⟨rfl, h4, h5⟩, hm4⟩ := hm3
    obtain ⟨⟨a, cc⟩, hm5⟩ := Mem.exl.1 (hm4.eq (by ac_rfl : _ = (ex fun x : Option Addr × Nat => pts w9.heap.size 50 [.slice x.1 pg.length x.2] * row 5 1 x.1 pg.length x.2 (byts pg)) * (pts gl 86 [.pointer (some ⟨g, 0, none⟩), .int .i64 (p : Int), .nilIface] * (pts w0.heap.size 41 [.pointer (some ⟨gl, 0, none⟩)] * (pts (w0.heap.size + 1) 3 [.int .i64 (n : Int)] * devAt T8 g D)) * R)))
    rw [sep_assoc] at hm5
    have e0 := hm5.cell 0
    simp only [List.getElem?_cons_zero] at e0
    have hsl := hm5.right.row_sl
    have HCL := hid (Clipb_any w3 a pg.length cc hsl.le hsl.cap)
    have HF := hid (hm5.right.clip.eq (by unfold logB; ac_rfl : _ = pts w0.heap.size 41 [.pointer (some ⟨gl, 0, none⟩)] * (pts (w0.heap.size + 1) 3 [.int .i64 (n : Int)] * (row 5 1 a pg.length pg.length (byts pg) * (logB g p .nilIface gl * (devAt T8 g D * R))))))
    have H45 := hid (And.intro h4 h5)
    clear hm4 hm5 hsl HCA h4 h5
    go_wp2_with fail
    refine HCL.out.mono ?_
    rintro e w' ⟨rfl, rfl⟩
    dsimp only
    go_wp2_with fail
    go_ret2
    exact ⟨a, rfl, H45.out.1, H45.out.2, HF.out.right.right⟩
end Go.Proofs.YtpaebopmppbjbaaGreatDoor
