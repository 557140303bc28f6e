/- The walk of wal's Open. -/
import Derived.Test.YtpaebopmppbjbaaWal9
set_option linter.unusedVariables false
set_option linter.unusedSimpArgs false
namespace Go.Proofs.Ytpaebopmppbjbaa
open Go Go.RowKit Go.Le
theorem runOf_le (lo hi : Nat) : ∀ x ∈ runOf lo hi, x ≤ hi := by
  intro x hx
  unfold runOf at hx
  obtain ⟨i, h1, h2⟩ := List.mem_range'.1 hx
  omega
/-- what Open's closure leaves: the log, or why it was given up -/
def openB (g : Nat) (D : Dev) (bd ba bl : Nat) (c : Int) : HP :=
  if c = 0 then ex fun x : Dev × Nat × Bool × Nat => pur (ioOpen D = (.ok (x.2.1, x.2.2.1), x.1)) * (devAt T8 g x.1 * (pts bd 41 [.pointer (some ⟨g, 0, none⟩)] * (pts ba 4 [.bool x.2.2.1] * (pts bl 22 [.pointer (some ⟨x.2.2.2, 0, none⟩)] * pts x.2.2.2 60 [.pointer (some ⟨g, 0, none⟩), .int .i64 (x.2.1 : Int), .nilIface]))))
  else ex fun x : Dev × Bool × Value => pur (ioOpen D = (.error c, x.1)) * (devAt T8 g x.1 * (pts bd 41 [.pointer (some ⟨g, 0, none⟩)] * (pts ba 4 [.bool x.2.1] * pts bl 22 [x.2.2])))

set_option maxRecDepth 20000 in
set_option maxHeartbeats 8000000 in
theorem Open1_any (wb w0 : World) (R : HP) (g bd ba bl : Nat) (D : Dev) (av : Bool) (lv : Value) (h : Mem wb w0 (devAt T8 g D * (pts bd 41 [.pointer (some ⟨g, 0, none⟩)] * (pts ba 4 [.bool av] * (pts bl 22 [lv] * R))))) (hpl : D.pend.length ≤ 700000000) :
    Calls Try.prog 18 #[.pointer (some ⟨bd, 0, none⟩), .pointer (some ⟨ba, 0, none⟩), .pointer (some ⟨bl, 0, none⟩)] w0 fun e w2 =>
      (e = .returned (.tuple #[]) ∧ Mem wb w2 (openB g D bd ba bl 0 * R)) ∨ ∃ c, e = .panicked [errP 45 c] ∧ c ≠ 0 ∧ Mem wb w2 (openB g D bd ba bl c * R) := by
  have q0 := h.p1.cell 0
  simp only [List.getElem?_cons_zero] at q0
  have HBE0 := hid (begun_any wb w0 _ g D h (by omega))
  have HGB : Hid (∀ p D', ioBegun D = (.ok p, D') → p = roomOf D.n ∧ D'.pend.length ≤ D.pend.length) := by
    show ∀ p D', _
    intro p D' hb
    unfold ioBegun at hb
    split at hb
    · cases hb
    · split at hb
      · cases hb
      · split at hb
        · cases hb; exact ⟨rfl, Nat.le_refl _⟩
        · unfold Io.and ioFlush at hb
          have hfp := flush_pend D
          by_cases hf : D.flush.2 = 0
          · simp only [hf, if_true] at hb
            cases hb
            exact ⟨rfl, hfp⟩
          · simp only [hf, if_false] at hb
            cases hb
  have FIN : Hid (∀ ag w' c D', ioOpen D = (.error c, D') → c ≠ 0 → Mem wb w' (devAt T8 g D' * (pts bd 41 [.pointer (some ⟨g, 0, none⟩)] * (pts ba 4 [.bool ag] * (pts bl 22 [lv] * R)))) →
      ((Ending.panicked [errP 45 c] = .returned (.tuple #[]) ∧ Mem wb w' (openB g D bd ba bl 0 * R)) ∨ ∃ c2, Ending.panicked [errP 45 c] = .panicked [errP 45 c2] ∧ c2 ≠ 0 ∧ Mem wb w' (openB g D bd ba bl c2 * R))) := by
    show ∀ ag w' c D', _
    intro ag w' c D' hb hc hm
    refine .inr ⟨c, rfl, hc, ?_⟩
    unfold openB
    rw [if_neg hc]
    refine Mem.exl.2 ⟨(D', ag, lv), ?_⟩
    rw [sep_assoc, Mem.pur]
    exact ⟨hb, hm.eq (by ac_rfl)⟩
  obtain ⟨rb, HRB⟩ : ∃ r, Hid (ioBegun D = r) := ⟨_, hid rfl⟩
  rw [HRB.out] at HBE0
  clear h
  rcases rb with ⟨e1 | p, D1⟩
  · have HBE : Hid (ioOpen D = (.error e1, D1)) := hid (Io.and_error HRB.out)
    clear HRB HGB
    go_enter Try.func18, Try.ntmps18
    go_wp2_with fail
    refine HBE0.out.mono ?_
    intro e w2 hs'
    obtain ⟨rfl, hc, hm2⟩ := hs'.error rfl
    dsimp only
    exact ⟨rfl, FIN.out _ _ _ _ HBE.out hc hm2⟩
  · obtain ⟨hpe, hp1⟩ := HGB.out p D1 HRB.out
    have hp250 : p ≤ 250 := by rw [hpe]; exact room_le _
    have HB1 : Hid (ioOpen D = ((ioAgain p).and fun a => (ioWiped (runOf 0 (2 * p + 1))).and fun _ => Io.ret (p, a)) D1) := hid (Io.and_ok HRB.out)
    have hpl1 : D1.pend.length ≤ 700000000 := by omega
    clear HRB HGB hpe hp1
    go_enter Try.func18, Try.ntmps18
    go_wp2_with fail
    refine HBE0.out.mono ?_
    intro e w2 hs'
    obtain ⟨v, rfl, hm2⟩ := hs'.ok rfl
    unfold diskB at hm2
    rw [Mem.pur] at hm2
    obtain ⟨rfl, hm3⟩ := hm2
    dsimp only
    have hmA := hm3.alloc [.pointer (some ⟨g, 0, none⟩), .int .i64 (p : Int)] 54
    have HAG := hid (again_any wb _ _ g D1 (hmA.p1) (by omega) p hp250)
    have HBX : Hid (∀ w' R', Mem wb w' (pts w2.heap.size 54 [.pointer (some ⟨g, 0, none⟩), .int .i64 (p : Int)] * R') → w'.cell? ⟨w2.heap.size, 0, none⟩ = some (.pointer (some ⟨g, 0, none⟩)) ∧ w'.cell? ⟨w2.heap.size, 1, none⟩ = some (.int .i64 (p : Int))) := fun w' R' h => ⟨h.cell 0, h.cell 1⟩
    have HGA := hid (Io.Grows.again p)
    obtain ⟨ra, HRA⟩ : ∃ r, Hid (ioAgain p D1 = r) := ⟨_, hid rfl⟩
    have HGA2 : Hid (ra.2.pend.length ≤ D1.pend.length + 513) := by rw [← HRA.out]; exact hid (HGA.out D1)
    rw [HRA.out] at HAG
    clear hm3 hmA hs' HBE0 HGA
    go_wp2_with fail
    refine HAG.out.mono ?_
    intro e w3 hs'
    rcases ra with ⟨e2 | a, D2⟩
    · have HBE : Hid (ioOpen D = (.error e2, D2)) := by
        show _ = _
        rw [HB1.out]
        exact Io.and_error HRA.out
      obtain ⟨rfl, hc, hm2⟩ := hs'.error rfl
      dsimp only
      exact ⟨rfl, FIN.out _ _ _ _ HBE.out hc hm2.p1.right⟩
    · have HB2 : Hid (ioOpen D = ((ioWiped (runOf 0 (2 * p + 1))).and fun _ => Io.ret (p, a)) D2) := by
        show _ = _
        rw [HB1.out]
        exact Io.and_ok HRA.out
      have hpl2 : D2.pend.length ≤ 800000000 := by have h2 : D2.pend.length ≤ D1.pend.length + 513 := HGA2.out; omega
      obtain ⟨v, rfl, hm2⟩ := hs'.ok rfl
      unfold boolB at hm2
      rw [Mem.pur] at hm2
      obtain ⟨rfl, hm3⟩ := hm2
      dsimp only
      have hba := hm3.eq (by ac_rfl : _ = pts ba 4 [.bool av] * (devAt T8 g D2 * (pts w2.heap.size 54 [.pointer (some ⟨g, 0, none⟩), .int .i64 (p : Int)] * (pts bd 41 [.pointer (some ⟨g, 0, none⟩)] * (pts bl 22 [lv] * R)))))
      have c0 := hba.cell 0
      have f0 := hba.frozen 0
      simp only [List.getElem?_cons_zero] at c0
      have hset := hba.setCell 0 (.bool a)
      simp only [List.set_cons_zero] at hset
      obtain ⟨R2, HR2d⟩ : ∃ R2, Hid (R2 = pts bd 41 [.pointer (some ⟨g, 0, none⟩)] * (pts ba 4 [.bool a] * (pts bl 22 [lv] * R))) := ⟨_, hid rfl⟩
      have HM := hid (hset.eq (by rw [HR2d.out]; ac_rfl : _ = devAt T8 g D2 * (pts w2.heap.size 54 [.pointer (some ⟨g, 0, none⟩), .int .i64 (p : Int)] * R2)))
      obtain ⟨q0, q1⟩ := HBX.out _ _ HM.out.right
      have FIN2 : Hid (∀ w' c D', ioOpen D = (.error c, D') → c ≠ 0 → Mem wb w' (devAt T8 g D' * (pts w2.heap.size 54 [.pointer (some ⟨g, 0, none⟩), .int .i64 (p : Int)] * R2)) →
          ((Ending.panicked [errP 45 c] = .returned (.tuple #[]) ∧ Mem wb w' (openB g D bd ba bl 0 * R)) ∨ ∃ c2, Ending.panicked [errP 45 c] = .panicked [errP 45 c2] ∧ c2 ≠ 0 ∧ Mem wb w' (openB g D bd ba bl c2 * R))) := by
        show ∀ w' c D', _
        intro w' c D' hb hc hm
        rw [HR2d.out] at hm
        exact FIN.out _ _ _ _ hb hc hm.p1.right
      have HLG : Hid (∀ w R', Mem wb w R' → Calls Try.prog 22 #[(.agg #[.pointer (some ⟨g, 0, none⟩), .int .i64 (p : Int)])] w fun e w' => ∃ a c, e = .returned (.slice a (2 * p + 1) c) ∧ Mem wb w' (row 3 1 a (2 * p + 1) c (nums (runOf 0 (2 * p + 1))) * R')) := fun w R' h => log_any wb w R' h _ p hp250
      have HWI : Hid (∀ w R' a c, Mem wb w (devAt T8 g D2 * R') → (∀ w', Mem wb w' R' → Sl w' a (runOf 0 (2 * p + 1)).length c (nums (runOf 0 (2 * p + 1)))) → Calls Try.prog 21 #[(.agg #[.pointer (some ⟨g, 0, none⟩), .int .i64 (p : Int)]), .slice a (runOf 0 (2 * p + 1)).length c] w (IoSays wb g R' (ioWiped (runOf 0 (2 * p + 1)) D2) unitB)) := by
        show ∀ w R' a c, _
        intro w R' a c h hs
        exact wiped_any wb w R' g D2 h _ a _ c _ (by rw [runOf_length]; omega) (by omega) hs (fun x hx => by have := runOf_le _ _ x hx; omega)
      obtain ⟨rw3, HRW⟩ : ∃ r, Hid (ioWiped (runOf 0 (2 * p + 1)) D2 = r) := ⟨_, hid rfl⟩
      rw [HRW.out] at HWI
      clear hm3 hba hset hs' HAG HRA
      rcases rw3 with ⟨e3 | u3, D3⟩
      · have HBE : Hid (ioOpen D = (.error e3, D3)) := by
          show _ = _
          rw [HB2.out]
          exact Io.and_error HRW.out
        clear HB2 HRW
        go_wp2_with fail
        refine region_mem (by kernel_rfl) (V := fun jv x => match jv with | 0 => x = (.agg #[.pointer (some ⟨g, 0, none⟩), .int .i64 (p : Int)] : Value) | 1 => x = (.agg #[.pointer (some ⟨g, 0, none⟩), .int .i64 (p : Int)] : Value) | 2 => ∃ a5 c5, x = (.slice a5 (2 * p + 1) c5 : Value) | 3 => False | _ => True) (A := (fun L => (if L 3 then devAt T8 g D3 else devAt T8 g D2) * (pts w2.heap.size 54 [.pointer (some ⟨g, 0, none⟩), .int .i64 (p : Int)] * R2))) (Bs := [(2, none, numsB (runOf 0 (2 * p + 1)))]) HM.out (fun L L' h => by show (if L 3 then _ else _) * _ = (if L' 3 then _ else _) * _; rw [h 3 (by decide)]) (show ([2] : List Nat).Nodup by decide) (by kernel_rfl) (by kernel_rfl) ?_ ?_
        · refine ⟨?_, ?_, ?_, ?_, trivial⟩
          · refine Fine2.run trivial _ rfl (fun _ => rfl) rfl rfl (fun L a w R' hw hm hmk hf => ?_)
            have e3 : a.eval (.tmp 3) = (.pointer (some ⟨w2.heap.size, 0, none⟩) : Value) := (hf 3 (by decide +kernel)).old (by kernel_rfl)
            simp only [Act.eval, Array.getD_eq_getD_getElem?] at e3
            have hbx := hm.left.right
            have q0 := hbx.cell 0
            have q1 := hbx.cell 1
            simp only [List.getElem?_cons_zero, List.getElem?_cons_succ] at q0 q1
            simp [execOp, resolve, invoke, builtin, go_sem, e3, q0, q1]
          · refine Fine2.run trivial _ rfl (fun _ => rfl) rfl rfl (fun L a w R' hw hm hmk hf => ?_)
            have e3 : a.eval (.tmp 3) = (.pointer (some ⟨w2.heap.size, 0, none⟩) : Value) := (hf 3 (by decide +kernel)).old (by kernel_rfl)
            simp only [Act.eval, Array.getD_eq_getD_getElem?] at e3
            have hbx := hm.left.right
            have q0 := hbx.cell 0
            have q1 := hbx.cell 1
            simp only [List.getElem?_cons_zero, List.getElem?_cons_succ] at q0 q1
            simp [execOp, resolve, invoke, builtin, go_sem, e3, q0, q1]
          · refine Fine2.call trivial rfl 22 #[(.agg #[.pointer (some ⟨g, 0, none⟩), .int .i64 (p : Int)])] (fun a w hf => ?_) (fun L a w R' hL hw hm hmk hf => ?_)
            · have e9 : a.eval (.tmp 9) = (.agg #[.pointer (some ⟨g, 0, none⟩), .int .i64 (p : Int)] : Value) := (hf 9 (by decide +kernel)).new 1 (by kernel_rfl) (by kernel_rfl)
              simp only [Act.eval, Array.getD_eq_getD_getElem?] at e9
              simp [execOp, resolve, invoke, go_sem, e9]
            · refine (HLG.out w _ hm).mono ?_
              rintro e w' ⟨a5, c5, rfl, hm2⟩
              refine ⟨_, rfl, ⟨a5, c5, rfl⟩, ?_⟩
              have hm3 := (Mem.rowB.2 ⟨a5, c5, rfl, hm2⟩ : Mem wb w' (rowB 3 (2 * p + 1) (nums (runOf 0 (2 * p + 1))) _ * _))
              have hm4 : Mem wb w' (numsB (runOf 0 (2 * p + 1)) (.slice a5 (2 * p + 1) c5) * ((if L 3 then devAt T8 g D3 else devAt T8 g D2) * (pts w2.heap.size 54 [.pointer (some ⟨g, 0, none⟩), .int .i64 (p : Int)] * R2) * R')) := by unfold numsB; rw [runOf_length]; exact hm3
              show Mem wb w' ((if doneSet L 2 3 then devAt T8 g D3 else devAt T8 g D2) * (pts w2.heap.size 54 [.pointer (some ⟨g, 0, none⟩), .int .i64 (p : Int)] * R2) * (numsB (runOf 0 (2 * p + 1)) (.slice a5 (2 * p + 1) c5) * R'))
              rw [show doneSet L 2 3 = L 3 from rfl]
              exact hm4.eq (by ac_rfl)
          · refine .inl ⟨trivial, fun L a w Kq Rq hL hw hm hmk hf hdf hcl hK => ?_⟩
            rw [eaten_none rfl, emp_sep] at hm
            obtain ⟨R3, hR3⟩ := hmk [true] (by kernel_rfl)
            have hm : Mem wb w ((if L 3 then devAt T8 g D3 else devAt T8 g D2) * (pts w2.heap.size 54 [.pointer (some ⟨g, 0, none⟩), .int .i64 (p : Int)] * R2) * Rq) := hm
            rw [hL] at hm
            have hm : Mem wb w (devAt T8 g D2 * (pts w2.heap.size 54 [.pointer (some ⟨g, 0, none⟩), .int .i64 (p : Int)] * R2) * Rq) := hm
            have hm' := hm
            rw [hR3] at hm'
            obtain ⟨a5, c5, y, m1⟩ := Mem.rowB.1 (show Mem wb w (_ * (_ * R3)) from hm').p1
            have e10 : a.eval (.tmp 10) = .slice a5 _ c5 := y
            have e8 : a.eval (.tmp 8) = (.agg #[.pointer (some ⟨g, 0, none⟩), .int .i64 (p : Int)] : Value) := (hf 8 (by decide +kernel)).new 0 (by kernel_rfl) (by kernel_rfl)
            simp only [Act.eval, Array.getD_eq_getD_getElem?] at e8 e10
            unfold Oper.wp
            rw [show (execOp a.eval _).run Try.prog w = .ok (.enter 21 #[(.agg #[.pointer (some ⟨g, 0, none⟩), .int .i64 (p : Int)]), .slice a5 (runOf 0 (2 * p + 1)).length c5]) w from by simp [execOp, resolve, invoke, go_sem, e8, e10]]
            refine (HWI.out w (pts w2.heap.size 54 [.pointer (some ⟨g, 0, none⟩), .int .i64 (p : Int)] * R2 * Rq) a5 c5 (hm.eq (by ac_rfl)) (fun w' h' => ?_)).mono ?_
            · rw [hR3] at h'
              obtain ⟨a6, c6, y2, m2⟩ := Mem.rowB.1 (show Mem wb w' (_ * (_ * R3)) from h').p1
              rw [y] at y2
              simp only [Value.slice.injEq] at y2
              obtain ⟨rfl, -, rfl⟩ := y2
              exact m2.row_sl
            intro e w' hs'
            obtain ⟨rfl, hc, hm2⟩ := hs'.error rfl
            exact ⟨hdf, FIN2.out _ _ _ HBE.out hc (hm2.eq (by ac_rfl) : Mem wb w' (Rq * (devAt T8 g D3 * (pts w2.heap.size 54 [.pointer (some ⟨g, 0, none⟩), .int .i64 (p : Int)] * R2)))).right⟩
        · intro u w9 hu hm9
          exact absurd (hu 11 3 rfl) (fun h => h)
      · have HBE : Hid (ioOpen D = (.ok (p, a), D3)) := by
          show _ = _
          rw [HB2.out]
          exact Io.and_ok HRW.out
        clear HB2 HRW
        go_wp2_with fail
        refine region_mem (by kernel_rfl) (V := fun jv x => match jv with | 0 => x = (.agg #[.pointer (some ⟨g, 0, none⟩), .int .i64 (p : Int)] : Value) | 1 => x = (.agg #[.pointer (some ⟨g, 0, none⟩), .int .i64 (p : Int)] : Value) | 2 => ∃ a5 c5, x = (.slice a5 (2 * p + 1) c5 : Value) | 3 => x = (.tuple #[] : Value) | _ => True) (A := (fun L => (if L 3 then devAt T8 g D3 else devAt T8 g D2) * (pts w2.heap.size 54 [.pointer (some ⟨g, 0, none⟩), .int .i64 (p : Int)] * R2))) (Bs := [(2, none, numsB (runOf 0 (2 * p + 1)))]) HM.out (fun L L' h => by show (if L 3 then _ else _) * _ = (if L' 3 then _ else _) * _; rw [h 3 (by decide)]) (show ([2] : List Nat).Nodup by decide) (by kernel_rfl) (by kernel_rfl) ?_ ?_
        · refine ⟨?_, ?_, ?_, ?_, trivial⟩
          · refine Fine2.run trivial _ rfl (fun _ => rfl) rfl rfl (fun L a w R' hw hm hmk hf => ?_)
            have e3 : a.eval (.tmp 3) = (.pointer (some ⟨w2.heap.size, 0, none⟩) : Value) := (hf 3 (by decide +kernel)).old (by kernel_rfl)
            simp only [Act.eval, Array.getD_eq_getD_getElem?] at e3
            have hbx := hm.left.right
            have q0 := hbx.cell 0
            have q1 := hbx.cell 1
            simp only [List.getElem?_cons_zero, List.getElem?_cons_succ] at q0 q1
            simp [execOp, resolve, invoke, builtin, go_sem, e3, q0, q1]
          · refine Fine2.run trivial _ rfl (fun _ => rfl) rfl rfl (fun L a w R' hw hm hmk hf => ?_)
            have e3 : a.eval (.tmp 3) = (.pointer (some ⟨w2.heap.size, 0, none⟩) : Value) := (hf 3 (by decide +kernel)).old (by kernel_rfl)
            simp only [Act.eval, Array.getD_eq_getD_getElem?] at e3
            have hbx := hm.left.right
            have q0 := hbx.cell 0
            have q1 := hbx.cell 1
            simp only [List.getElem?_cons_zero, List.getElem?_cons_succ] at q0 q1
            simp [execOp, resolve, invoke, builtin, go_sem, e3, q0, q1]
          · refine Fine2.call trivial rfl 22 #[(.agg #[.pointer (some ⟨g, 0, none⟩), .int .i64 (p : Int)])] (fun a w hf => ?_) (fun L a w R' hL hw hm hmk hf => ?_)
            · have e9 : a.eval (.tmp 9) = (.agg #[.pointer (some ⟨g, 0, none⟩), .int .i64 (p : Int)] : Value) := (hf 9 (by decide +kernel)).new 1 (by kernel_rfl) (by kernel_rfl)
              simp only [Act.eval, Array.getD_eq_getD_getElem?] at e9
              simp [execOp, resolve, invoke, go_sem, e9]
            · refine (HLG.out w _ hm).mono ?_
              rintro e w' ⟨a5, c5, rfl, hm2⟩
              refine ⟨_, rfl, ⟨a5, c5, rfl⟩, ?_⟩
              have hm3 := (Mem.rowB.2 ⟨a5, c5, rfl, hm2⟩ : Mem wb w' (rowB 3 (2 * p + 1) (nums (runOf 0 (2 * p + 1))) _ * _))
              have hm4 : Mem wb w' (numsB (runOf 0 (2 * p + 1)) (.slice a5 (2 * p + 1) c5) * ((if L 3 then devAt T8 g D3 else devAt T8 g D2) * (pts w2.heap.size 54 [.pointer (some ⟨g, 0, none⟩), .int .i64 (p : Int)] * R2) * R')) := by unfold numsB; rw [runOf_length]; exact hm3
              show Mem wb w' ((if doneSet L 2 3 then devAt T8 g D3 else devAt T8 g D2) * (pts w2.heap.size 54 [.pointer (some ⟨g, 0, none⟩), .int .i64 (p : Int)] * R2) * (numsB (runOf 0 (2 * p + 1)) (.slice a5 (2 * p + 1) c5) * R'))
              rw [show doneSet L 2 3 = L 3 from rfl]
              exact hm4.eq (by ac_rfl)
          · refine .inl ⟨trivial, fun L a w Kq Rq hL hw hm hmk hf hdf hcl hK => ?_⟩
            rw [eaten_none rfl, emp_sep] at hm
            obtain ⟨R3, hR3⟩ := hmk [true] (by kernel_rfl)
            have hm : Mem wb w ((if L 3 then devAt T8 g D3 else devAt T8 g D2) * (pts w2.heap.size 54 [.pointer (some ⟨g, 0, none⟩), .int .i64 (p : Int)] * R2) * Rq) := hm
            rw [hL] at hm
            have hm : Mem wb w (devAt T8 g D2 * (pts w2.heap.size 54 [.pointer (some ⟨g, 0, none⟩), .int .i64 (p : Int)] * R2) * Rq) := hm
            have hm' := hm
            rw [hR3] at hm'
            obtain ⟨a5, c5, y, m1⟩ := Mem.rowB.1 (show Mem wb w (_ * (_ * R3)) from hm').p1
            have e10 : a.eval (.tmp 10) = .slice a5 _ c5 := y
            have e8 : a.eval (.tmp 8) = (.agg #[.pointer (some ⟨g, 0, none⟩), .int .i64 (p : Int)] : Value) := (hf 8 (by decide +kernel)).new 0 (by kernel_rfl) (by kernel_rfl)
            simp only [Act.eval, Array.getD_eq_getD_getElem?] at e8 e10
            unfold Oper.wp
            rw [show (execOp a.eval _).run Try.prog w = .ok (.enter 21 #[(.agg #[.pointer (some ⟨g, 0, none⟩), .int .i64 (p : Int)]), .slice a5 (runOf 0 (2 * p + 1)).length c5]) w from by simp [execOp, resolve, invoke, go_sem, e8, e10]]
            refine (HWI.out w (pts w2.heap.size 54 [.pointer (some ⟨g, 0, none⟩), .int .i64 (p : Int)] * R2 * Rq) a5 c5 (hm.eq (by ac_rfl)) (fun w' h' => ?_)).mono ?_
            · rw [hR3] at h'
              obtain ⟨a6, c6, y2, m2⟩ := Mem.rowB.1 (show Mem wb w' (_ * (_ * R3)) from h').p1
              rw [y] at y2
              simp only [Value.slice.injEq] at y2
              obtain ⟨rfl, -, rfl⟩ := y2
              exact m2.row_sl
            intro e w' hs'
            obtain ⟨rfl, hm2⟩ := hs'.unit rfl
            refine hK _ _ rfl ?_
            show Mem wb w' ((if doneSet L 3 3 then devAt T8 g D3 else devAt T8 g D2) * (pts w2.heap.size 54 [.pointer (some ⟨g, 0, none⟩), .int .i64 (p : Int)] * R2) * (emp * Rq))
            rw [show doneSet L 3 3 = true from rfl, emp_sep]
            exact hm2.eq (by show _ = devAt T8 g D3 * (pts w2.heap.size 54 [.pointer (some ⟨g, 0, none⟩), .int .i64 (p : Int)] * R2) * Rq; ac_rfl)
        · intro u w9 hu hm9
          have hm8 : Mem wb w9 (devAt T8 g D3 * (pts w2.heap.size 54 [.pointer (some ⟨g, 0, none⟩), .int .i64 (p : Int)] * R2)) := hm9.left
          obtain ⟨q0, q1⟩ := HBX.out _ _ hm8.right
          rw [HR2d.out] at hm8
          have hn := hm8.alloc [.pointer (some ⟨g, 0, none⟩), .int .i64 (p : Int), .nilIface] 60
          have hbl := hn.eq (by ac_rfl : _ = pts bl 22 [lv] * (pts w9.heap.size 60 [.pointer (some ⟨g, 0, none⟩), .int .i64 (p : Int), .nilIface] * (devAt T8 g D3 * (pts w2.heap.size 54 [.pointer (some ⟨g, 0, none⟩), .int .i64 (p : Int)] * (pts bd 41 [.pointer (some ⟨g, 0, none⟩)] * (pts ba 4 [.bool a] * R))))))
          have c1 := hbl.cell 0
          have f1 := hbl.frozen 0
          simp only [List.getElem?_cons_zero] at c1
          have hs2 := hbl.setCell 0 (.pointer (some ⟨w9.heap.size, 0, none⟩))
          simp only [List.set_cons_zero] at hs2
          have HS2 := hid hs2
          simp only [putAll]
          clear hm9 hm8 hn hbl hs2 hu HM HWI HLG
          go_simp
          go_wp2_with fail
          go_end0
          refine .inl ⟨rfl, ?_⟩
          unfold openB
          rw [if_pos rfl]
          refine Mem.exl.2 ⟨(D3, p, a, w9.heap.size), ?_⟩
          rw [sep_assoc, Mem.pur]
          exact ⟨HBE.out, (HS2.out.eq (by ac_rfl) : Mem wb _ (pts w2.heap.size 54 [.pointer (some ⟨g, 0, none⟩), .int .i64 (p : Int)] * (devAt T8 g D3 * (pts bd 41 [.pointer (some ⟨g, 0, none⟩)] * (pts ba 4 [.bool a] * (pts bl 22 [.pointer (some ⟨w9.heap.size, 0, none⟩)] * (pts w9.heap.size 60 [.pointer (some ⟨g, 0, none⟩), .int .i64 (p : Int), .nilIface] * R))))))).right.eq (by ac_rfl)⟩
end Go.Proofs.Ytpaebopmppbjbaa
