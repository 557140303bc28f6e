/- The walk of wal's again. -/
import Derived.Test.YtpaebopmppbjbaaWal6
set_option linter.unusedVariables false
set_option linter.unusedSimpArgs false
namespace Go.Le
open Go Go.RowKit
/-- from the sector number k of page n on -/
def redoFrom (p n : Nat) (r : List Nat) (k : Nat) : Io Unit := if k = 0 then (ioCopy p n 0).and fun _ => (ioCopy p n 1).and fun _ => ioRedo p r else if k = 1 then (ioCopy p n 1).and fun _ => ioRedo p r else ioRedo p r
theorem redoFrom_step (p n : Nat) (r : List Nat) (k : Nat) (h : k < 2) : redoFrom p n r k = (ioCopy p n k).and fun _ => redoFrom p n r (k + 1) := by
  match k, h with
  | 0, _ => rfl
  | 1, _ => rfl
theorem read_same {i : Nat} {D D' : Dev} {b : List UInt8} (h : ioRead i D = (.ok b, D')) : D' = D := by
  unfold ioRead at h
  split at h
  · cases h; rfl
  · cases h
theorem read_same_error {i : Nat} {D D' : Dev} {e : Int} (h : ioRead i D = (.error e, D')) : D' = D := by
  unfold ioRead at h
  split at h
  · cases h
  · cases h; rfl
end Go.Le
namespace Go.Proofs.Ytpaebopmppbjbaa
open Go Go.RowKit Go.Le

/-- a truth -/
def boolB (b : Bool) (v : Value) : HP := pur (v = .bool b)
theorem read_len {i : Nat} {D D' : Dev} {b : List UInt8} (hok : D.ok) (h : ioRead i D = (.ok b, D')) : b.length = 512 := by
  unfold ioRead at h
  split at h
  · rename_i ha
    cases h
    obtain ⟨-, -, h2⟩ := asked_zero ha
    exact Dev.last_length hok (by omega)
  · cases h

set_option maxRecDepth 20000 in
set_option maxHeartbeats 8000000 in
theorem again_any (wb w0 : World) (R : HP) (g : Nat) (D : Dev) (h : Mem wb w0 (devAt T8 g D * R)) (hpl : D.pend.length ≤ 800000000) (p : Nat) (hp : p ≤ 250) :
    Calls Try.prog 20 #[(.agg #[.pointer (some ⟨g, 0, none⟩), .int .i64 (p : Int)])] w0 (IoSays wb g R (ioAgain p D) boolB) := by
  have hbx := h.alloc [.pointer (some ⟨g, 0, none⟩), .int .i64 (p : Int)] 54
  have hm0 := hbx.eq (by ac_rfl : _ = devAt T8 g D * (pts w0.heap.size 54 [.pointer (some ⟨g, 0, none⟩), .int .i64 (p : Int)] * R))
  obtain ⟨hok, -⟩ := Mem.devAt.1 hm0
  have HOK := hid hok
  obtain ⟨q0, q1⟩ : (w0.alloc (.cells #[.pointer (some ⟨g, 0, none⟩), .int .i64 (p : Int)] 54)).cell? ⟨w0.heap.size, 0, none⟩ = some (.pointer (some ⟨g, 0, none⟩)) ∧ (w0.alloc (.cells #[.pointer (some ⟨g, 0, none⟩), .int .i64 (p : Int)] 54)).cell? ⟨w0.heap.size, 1, none⟩ = some (.int .i64 (p : Int)) := ⟨hbx.cell 0, hbx.cell 1⟩
  have HBX : Hid (∀ w' R', Mem wb w' (pts w0.heap.size 54 [.pointer (some ⟨g, 0, none⟩), .int .i64 (p : Int)] * R') → w'.cell? ⟨w0.heap.size, 0, none⟩ = some (.pointer (some ⟨g, 0, none⟩)) ∧ w'.cell? ⟨w0.heap.size, 1, none⟩ = some (.int .i64 (p : Int))) := fun w' R' h => ⟨h.cell 0, h.cell 1⟩
  have HR0 := hid (dread_any wb _ _ g D hm0 (by omega) 0 (by omega) (p : Int))
  obtain ⟨r0, HR⟩ : ∃ r, Hid (ioRead 0 D = r) := ⟨_, hid rfl⟩
  rw [HR.out] at HR0
  clear h hbx hm0 hok
  rcases r0 with ⟨e0 | m, D0⟩
  · have HBE : Hid (ioAgain p D = (.error e0, D0)) := hid (Io.and_error HR.out)
    clear HR
    go_enter Try.func20, Try.ntmps20
    go_wp2_with fail
    refine HR0.out.mono ?_
    intro e w2 hs'
    obtain ⟨rfl, hc, hm2⟩ := hs'.error rfl
    dsimp only
    exact ⟨rfl, IoSays.mkError HBE.out hc hm2.p1.right⟩
  · obtain rfl : D0 = D := read_same HR.out
    have HML := hid (read_len HOK.out HR.out)
    have HB0 : Hid (ioAgain p D0 = ((ioOf (marked m p)).and fun l => if l = [] then Io.ret false else (ioRedo p l).and fun _ => ioFlush.and fun _ => (ioFalls m).and fun _ => Io.ret true) D0) := hid (Io.and_ok HR.out)
    clear HR
    go_enter Try.func20, Try.ntmps20
    go_wp2_with fail
    refine HR0.out.mono ?_
    intro e w2 hs'
    obtain ⟨v, rfl, hm2⟩ := hs'.ok rfl
    unfold bytesB at hm2
    rw [HML.out] at hm2
    obtain ⟨am, cm, rfl, hm3⟩ := Mem.rowB.1 hm2
    dsimp only
    have hm4 := hm3.eq (by ac_rfl : _ = devAt T8 g D0 * (pts w0.heap.size 54 [.pointer (some ⟨g, 0, none⟩), .int .i64 (p : Int)] * (row 5 1 am 512 cm (byts m) * R)))
    have HMA := hid (marked_any wb w2 _ g D0 am cm m HML.out hm4 (fun w' h' => h'.right.row_sl) p hp)
    obtain ⟨q0, q1⟩ := HBX.out _ _ hm4.right
    clear hm2 hm3 hm4 hs' HR0
    cases hmk : marked m p with
    | error e1 =>
      rw [hmk] at HMA HB0
      have HBE : Hid (ioAgain p D0 = (.error e1, D0)) := HB0
      clear hmk HB0
      go_wp2_with fail
      refine HMA.out.mono ?_
      intro e w3 hs'
      obtain ⟨rfl, hc, hm2⟩ := hs'.error rfl
      dsimp only
      exact ⟨rfl, IoSays.mkError HBE.out hc (hm2.eq (by ac_rfl) : Mem wb w3 (pts w0.heap.size 54 [.pointer (some ⟨g, 0, none⟩), .int .i64 (p : Int)] * (row 5 1 am 512 cm (byts m) * (devAt T8 g D0 * R)))).right.right⟩
    | ok l =>
      rw [hmk] at HMA HB0
      have hll := marked_length hmk
      have HLB : Hid (∀ x ∈ l, x ≤ 255) := by
        show ∀ x ∈ l, x ≤ 255
        intro x hx
        unfold marked at hmk
        split at hmk
        · cases hmk; cases hx
        · split at hmk
          · cases hmk
          · split at hmk
            · cases hmk
            · cases hmk
              have := List.mem_range.1 (List.mem_filter.1 hx).1
              omega
      have HB1 : Hid (ioAgain p D0 = (if l = [] then Io.ret false else (ioRedo p l).and fun _ => ioFlush.and fun _ => (ioFalls m).and fun _ => Io.ret true) D0) := HB0
      clear hmk HB0
      go_wp2_with fail
      refine HMA.out.mono ?_
      intro e w3 hs'
      obtain ⟨v, rfl, hm2⟩ := hs'.ok rfl
      unfold numsB at hm2
      obtain ⟨al, cl, rfl, hm3⟩ := Mem.rowB.1 hm2
      dsimp only
      have HM4 := hid (hm3.eq (by ac_rfl : _ = devAt T8 g D0 * (pts w0.heap.size 54 [.pointer (some ⟨g, 0, none⟩), .int .i64 (p : Int)] * (row 5 1 am 512 cm (byts m) * (row 3 1 al l.length cl (nums l) * R)))))
      clear hm2 hm3 hs' HMA q0 q1
      by_cases hl0 : l = []
      · have HBE : Hid (ioAgain p D0 = (.ok false, D0)) := by
          show _ = _
          rw [HB1.out, if_pos hl0]
          rfl
        have hl0' : l.length = 0 := by rw [hl0]; rfl
        have HM5 := (HM4.out.eq (by ac_rfl) : Mem wb w3 (pts w0.heap.size 54 [.pointer (some ⟨g, 0, none⟩), .int .i64 (p : Int)] * (row 5 1 am 512 cm (byts m) * (row 3 1 al l.length cl (nums l) * (devAt T8 g D0 * R))))).right.right.right
        have HM5 := hid HM5
        clear HB1 HM4 hl0
        go_wp2_with fail
        go_ret
        exact IoSays.mkOk HBE.out (by unfold boolB; rw [Mem.pur]; exact ⟨rfl, HM5.out⟩)
      · have HB2 : Hid (ioAgain p D0 = ((ioRedo p l).and fun _ => ioFlush.and fun _ => (ioFalls m).and fun _ => Io.ret true) D0) := by
          show _ = _
          rw [HB1.out, if_neg hl0]
        have hlp : 0 < l.length := by cases l with | nil => exact absurd rfl hl0 | cons x r => simp
        have hll0 : ((l.length : Int) == 0) = false := by rw [beq_eq_false_iff_ne]; omega
        obtain ⟨R2, HR2d⟩ : ∃ R2, Hid (R2 = row 5 1 am 512 cm (byts m) * (row 3 1 al l.length cl (nums l) * R)) := ⟨_, hid rfl⟩
        rw [← HR2d.out] at HM4
        have HSL : Hid (∀ w', Mem wb w' R2 → Sl w' al l.length cl (nums l)) := by
          show ∀ w', _
          intro w' h'
          rw [HR2d.out] at h'
          exact h'.right.row_sl
        have FIN : Hid (∀ w' c D', ioAgain p D0 = (.error c, D') → c ≠ 0 → Mem wb w' (devAt T8 g D' * R2) → IoSays wb g R (ioAgain p D0) boolB (.panicked [errP 45 c]) w') := by
          show ∀ w' c D', _
          intro w' c D' hb hc hm
          rw [HR2d.out] at hm
          exact IoSays.mkError hb hc (hm.eq (by ac_rfl) : Mem wb w' (row 5 1 am 512 cm (byts m) * (row 3 1 al l.length cl (nums l) * (devAt T8 g D' * R)))).right.right
        obtain ⟨rest, HRE⟩ : ∃ rest : Unit → Io Bool, Hid (rest = fun _ => ioFlush.and fun _ => (ioFalls m).and fun _ => Io.ret true) := ⟨_, hid rfl⟩
        rw [← HRE.out] at HB2
        have hal := (HSL.out _ HM4.out.right.right)
        have hcl := hal.le
        have hcl2 := hal.cap
        clear HB1 hl0 hlp hal
        go_wp2_with fail
        go_loopw [6, 7, 18, 22] (fun _ _ jv _ wr => ∃ (j : Nat) (D1 : Dev), j ≤ l.length ∧ jv = .int .i64 j ∧ D1.pend.length ≤ D0.pend.length + 2 * j ∧ ioAgain p D0 = ((ioRedo p (l.drop j)).and rest) D1 ∧ Mem wb wr (devAt T8 g D1 * (pts w0.heap.size 54 [.pointer (some ⟨g, 0, none⟩), .int .i64 (p : Int)] * R2))) (fun _ _ jv _ _ => l.length - (intOf jv).toNat)
        case atStart => exact ⟨0, D0, by omega, rfl, by omega, by rw [List.drop_zero]; exact HB2.out, HM4.out⟩
        case round =>
          obtain ⟨j, Dj, hj, rfl, hpd, hio, hm⟩ := hrel
          have HM := hid hm
          have HIO := hid hio
          clear HM4 HB2 hm hio
          by_cases hlt : j < l.length
          · have hsl := HSL.out _ HM.out.right.right
            obtain ⟨b, o, rfl⟩ := hsl.addr (by omega)
            have hcb := hsl.at j hlt
            have e3 : (nums l)[j]'(by rw [nums_length]; exact hlt) = .int .i64 ((l[j] : Nat) : Int) := by simp [nums]
            rw [e3] at hcb
            have hxi := HLB.out l[j] (List.getElem_mem hlt)
            have HDC := hid (drop_cons l j hlt)
            generalize l[j] = nn at *
            have jn : (j : Int) < (l.length : Int) := by omega
            have HIO2 : Hid (ioAgain p D0 = ((redoFrom p nn (l.drop (j + 1)) 0).and rest) Dj) := by
              show _ = _
              rw [HIO.out, HDC.out]
              rfl
            clear hsl e3 HIO HDC
            obtain ⟨wo, hwo⟩ : ∃ wo : World, wo = wr := ⟨_, rfl⟩
            subst hwo
            go_wp2_with fail
            go_loopw [7, 22] (fun _ kv wr => ∃ (k : Nat) (D1 : Dev), k ≤ 2 ∧ kv = .int .i64 k ∧ D1.pend.length ≤ D0.pend.length + 2 * j + k ∧ ioAgain p D0 = ((redoFrom p nn (l.drop (j + 1)) k).and rest) D1 ∧ Mem wb wr (devAt T8 g D1 * (pts w0.heap.size 54 [.pointer (some ⟨g, 0, none⟩), .int .i64 (p : Int)] * R2))) (fun _ kv _ => 2 - (intOf kv).toNat)
            case atStart => exact ⟨0, Dj, by omega, rfl, by omega, HIO2.out, HM.out⟩
            case round =>
              obtain ⟨k, D1, hk, rfl, hpd1, hio, hm⟩ := hrel
              have HM1 := hid hm
              have HIO1 := hid hio
              clear HM HIO2 hm hio hcb
              have HM := HM1
              clear HM1
              by_cases hkt : k < 2
              · have k2 : (k : Int) < 2 := by omega
                have HCP : Hid (ioAgain p D0 = ((ioRead (slotOf nn + k)).and fun b => (ioWrite (homeOf p nn + k) b).and fun _ => (redoFrom p nn (l.drop (j + 1)) (k + 1)).and rest) D1) := by
                  show _ = _
                  rw [HIO1.out, redoFrom_step _ _ _ _ hkt, Io.and_assoc]
                  unfold ioCopy
                  rw [Io.and_assoc]
                have HHO : Hid (∀ w, Calls Try.prog 44 #[(.agg #[.pointer (some ⟨g, 0, none⟩), .int .i64 (p : Int)]), .int .i64 (nn : Int)] w fun e w' => e = .returned (.int .i64 ((homeOf p nn : Nat) : Int)) ∧ Fr w.heap.size [] w w') := fun w => home_any w _ nn p (by omega) (by omega)
                have HSO : Hid (∀ w, Calls Try.prog 45 #[(.agg #[.pointer (some ⟨g, 0, none⟩), .int .i64 (p : Int)]), .int .i64 (nn : Int)] w fun e w' => e = .returned (.int .i64 ((slotOf nn : Nat) : Int)) ∧ Fr w.heap.size [] w w') := fun w => slot_any w _ nn (by omega) _
                have hho : homeOf p nn ≤ 2000 := by unfold homeOf; omega
                have hso : slotOf nn ≤ 2000 := by unfold slotOf; omega
                generalize homeOf p nn = ho at *
                generalize slotOf nn = so at *
                have HRD : Hid (∀ w R', Mem wb w (devAt T8 g D1 * R') → Calls Try.prog 25 #[(.agg #[.pointer (some ⟨g, 0, none⟩), .int .i64 (p : Int)]), .int .i64 ((so : Int) + (k : Int))] w (IoSays wb g R' (ioRead (so + k) D1) bytesB)) := by
                  show ∀ w R', _
                  intro w R' h
                  have := dread_any wb w R' g D1 h (by omega) (so + k) (by omega) (p : Int)
                  rw [show ((so + k : Nat) : Int) = (so : Int) + (k : Int) by omega] at this
                  exact this
                have WO : IntKind.i64.wrap ((ho : Int) + (k : Int)) = (ho : Int) + (k : Int) := IntWalk.i64_in _ (by omega)
                have WS : IntKind.i64.wrap ((so : Int) + (k : Int)) = (so : Int) + (k : Int) := IntWalk.i64_in _ (by omega)
                have HWO := hid WO
                have HWS := hid WS
                obtain ⟨rr, HRR⟩ : ∃ r, Hid (ioRead (so + k) D1 = r) := ⟨_, hid rfl⟩
                rw [HRR.out] at HRD
                clear WO WS HIO1
                rcases rr with ⟨e1 | bs, Dx⟩
                · obtain rfl : Dx = D1 := read_same_error HRR.out
                  have HBE : Hid (ioAgain p D0 = (.error e1, Dx)) := by
                    show _ = _
                    rw [HCP.out]
                    exact Io.and_error HRR.out
                  clear HCP HRR
                  go_wp2_with fail
                  have WO := HWO.out
                  have WS := HWS.out
                  refine region_mem (by kernel_rfl) (V := fun jv x => match jv with | 0 => x = (.agg #[.pointer (some ⟨g, 0, none⟩), .int .i64 (p : Int)] : Value) | 1 => x = (.agg #[.pointer (some ⟨g, 0, none⟩), .int .i64 (p : Int)] : Value) | 2 => x = (.int .i64 (nn : Int) : Value) | 3 => x = (.int .i64 (ho : Int) : Value) | 4 => x = (.int .i64 (k : Int) : Value) | 5 => x = (.int .i64 ((ho : Int) + (k : Int)) : Value) | 6 => x = (.agg #[.pointer (some ⟨g, 0, none⟩), .int .i64 (p : Int)] : Value) | 7 => x = (.agg #[.pointer (some ⟨g, 0, none⟩), .int .i64 (p : Int)] : Value) | 8 => x = (.int .i64 (nn : Int) : Value) | 9 => x = (.int .i64 (so : Int) : Value) | 10 => x = (.int .i64 (k : Int) : Value) | 11 => x = (.int .i64 ((so : Int) + (k : Int)) : Value) | 12 => False | 13 => False | _ => True) (A := (fun L => (if L 13 then devAt T8 g Dx else devAt T8 g Dx) * (pts w0.heap.size 54 [.pointer (some ⟨g, 0, none⟩), .int .i64 (p : Int)] * R2))) (Bs := []) HM.out (fun L L' h => by show (if L 13 then _ else _) * _ = (if L' 13 then _ else _) * _; rw [h 13 (by decide)]) (show ([] : List Nat).Nodup by decide) (by kernel_rfl) (by kernel_rfl) ?_ ?_
                  · refine ⟨?_, ?_, ?_, ?_, ?_, ?_, ?_, ?_, ?_, ?_, ?_, ?_, ?_, ?_, trivial⟩
                    · refine Fine2.run trivial _ rfl (fun _ => rfl) rfl rfl (fun L a w R' hw hm hmk hf => ?_)
                      have e1 : a.eval (.tmp 1) = (.pointer (some ⟨w0.heap.size, 0, none⟩) : Value) := (hf 1 (by decide +kernel)).old (by kernel_rfl)
                      simp only [Act.eval, Array.getD_eq_getD_getElem?] at e1
                      have hbx := hm.left.right
                      have q0 := hbx.cell 0
                      have q1 := hbx.cell 1
                      simp only [List.getElem?_cons_zero, List.getElem?_cons_succ] at q0 q1
                      simp [execOp, resolve, invoke, builtin, go_sem, e1, q0, q1]
                    · refine Fine2.run trivial _ rfl (fun _ => rfl) rfl rfl (fun L a w R' hw hm hmk hf => ?_)
                      have e1 : a.eval (.tmp 1) = (.pointer (some ⟨w0.heap.size, 0, none⟩) : Value) := (hf 1 (by decide +kernel)).old (by kernel_rfl)
                      simp only [Act.eval, Array.getD_eq_getD_getElem?] at e1
                      have hbx := hm.left.right
                      have q0 := hbx.cell 0
                      have q1 := hbx.cell 1
                      simp only [List.getElem?_cons_zero, List.getElem?_cons_succ] at q0 q1
                      simp [execOp, resolve, invoke, builtin, go_sem, e1, q0, q1]
                    · refine Fine2.run trivial _ rfl (fun _ => rfl) rfl rfl (fun L a w R' hw hm hmk hf => ?_)
                      have e6 : a.eval (.tmp 6) = (.int .i64 (nn : Int) : Value) := (hf 6 (by decide +kernel)).old (by kernel_rfl)
                      simp only [Act.eval, Array.getD_eq_getD_getElem?] at e6
                      simp [execOp, resolve, invoke, builtin, go_sem, e6]
                    · refine Fine2.call trivial rfl 44 #[(.agg #[.pointer (some ⟨g, 0, none⟩), .int .i64 (p : Int)]), (.int .i64 (nn : Int))] (fun a w hf => ?_) (fun L a w R' hL hw hm hmk hf => ?_)
                      · have e26 : a.eval (.tmp 26) = (.agg #[.pointer (some ⟨g, 0, none⟩), .int .i64 (p : Int)] : Value) := (hf 26 (by decide +kernel)).new 1 (by kernel_rfl) (by kernel_rfl)
                        have e27 : a.eval (.tmp 27) = (.int .i64 (nn : Int) : Value) := (hf 27 (by decide +kernel)).new 2 (by kernel_rfl) (by kernel_rfl)
                        simp only [Act.eval, Array.getD_eq_getD_getElem?] at e26 e27
                        simp [execOp, resolve, invoke, go_sem, e26, e27]
                      · refine (HHO.out w).mono ?_
                        rintro e w' ⟨rfl, hf'⟩
                        refine ⟨_, rfl, rfl, ?_⟩
                        have hm2 : Mem wb w' ((if L 13 then devAt T8 g Dx else devAt T8 g Dx) * (pts w0.heap.size 54 [.pointer (some ⟨g, 0, none⟩), .int .i64 (p : Int)] * R2) * R') := hm.fr hf'
                        show Mem wb w' ((if doneSet L 3 13 then devAt T8 g Dx else devAt T8 g Dx) * (pts w0.heap.size 54 [.pointer (some ⟨g, 0, none⟩), .int .i64 (p : Int)] * R2) * (emp * R'))
                        rw [show doneSet L 3 13 = L 13 from rfl, emp_sep]
                        exact hm2
                    · refine Fine2.run trivial _ rfl (fun _ => rfl) rfl rfl (fun L a w R' hw hm hmk hf => ?_)
                      have e7 : a.eval (.tmp 7) = (.int .i64 (k : Int) : Value) := (hf 7 (by decide +kernel)).old (by kernel_rfl)
                      simp only [Act.eval, Array.getD_eq_getD_getElem?] at e7
                      simp [execOp, resolve, invoke, builtin, go_sem, e7]
                    · refine Fine2.run trivial _ rfl (fun _ => rfl) rfl rfl (fun L a w R' hw hm hmk hf => ?_)
                      have e28 : a.eval (.tmp 28) = (.int .i64 (ho : Int) : Value) := (hf 28 (by decide +kernel)).new 3 (by kernel_rfl) (by kernel_rfl)
                      have e29 : a.eval (.tmp 29) = (.int .i64 (k : Int) : Value) := (hf 29 (by decide +kernel)).new 4 (by kernel_rfl) (by kernel_rfl)
                      simp only [Act.eval, Array.getD_eq_getD_getElem?] at e28 e29
                      simp [execOp, resolve, invoke, builtin, go_sem, e28, e29, WO]
                    · refine Fine2.run trivial _ rfl (fun _ => rfl) rfl rfl (fun L a w R' hw hm hmk hf => ?_)
                      have e1 : a.eval (.tmp 1) = (.pointer (some ⟨w0.heap.size, 0, none⟩) : Value) := (hf 1 (by decide +kernel)).old (by kernel_rfl)
                      simp only [Act.eval, Array.getD_eq_getD_getElem?] at e1
                      have hbx := hm.left.right
                      have q0 := hbx.cell 0
                      have q1 := hbx.cell 1
                      simp only [List.getElem?_cons_zero, List.getElem?_cons_succ] at q0 q1
                      simp [execOp, resolve, invoke, builtin, go_sem, e1, q0, q1]
                    · refine Fine2.run trivial _ rfl (fun _ => rfl) rfl rfl (fun L a w R' hw hm hmk hf => ?_)
                      have e1 : a.eval (.tmp 1) = (.pointer (some ⟨w0.heap.size, 0, none⟩) : Value) := (hf 1 (by decide +kernel)).old (by kernel_rfl)
                      simp only [Act.eval, Array.getD_eq_getD_getElem?] at e1
                      have hbx := hm.left.right
                      have q0 := hbx.cell 0
                      have q1 := hbx.cell 1
                      simp only [List.getElem?_cons_zero, List.getElem?_cons_succ] at q0 q1
                      simp [execOp, resolve, invoke, builtin, go_sem, e1, q0, q1]
                    · refine Fine2.run trivial _ rfl (fun _ => rfl) rfl rfl (fun L a w R' hw hm hmk hf => ?_)
                      have e6 : a.eval (.tmp 6) = (.int .i64 (nn : Int) : Value) := (hf 6 (by decide +kernel)).old (by kernel_rfl)
                      simp only [Act.eval, Array.getD_eq_getD_getElem?] at e6
                      simp [execOp, resolve, invoke, builtin, go_sem, e6]
                    · refine Fine2.call trivial rfl 45 #[(.agg #[.pointer (some ⟨g, 0, none⟩), .int .i64 (p : Int)]), (.int .i64 (nn : Int))] (fun a w hf => ?_) (fun L a w R' hL hw hm hmk hf => ?_)
                      · have e32 : a.eval (.tmp 32) = (.agg #[.pointer (some ⟨g, 0, none⟩), .int .i64 (p : Int)] : Value) := (hf 32 (by decide +kernel)).new 7 (by kernel_rfl) (by kernel_rfl)
                        have e33 : a.eval (.tmp 33) = (.int .i64 (nn : Int) : Value) := (hf 33 (by decide +kernel)).new 8 (by kernel_rfl) (by kernel_rfl)
                        simp only [Act.eval, Array.getD_eq_getD_getElem?] at e32 e33
                        simp [execOp, resolve, invoke, go_sem, e32, e33]
                      · refine (HSO.out w).mono ?_
                        rintro e w' ⟨rfl, hf'⟩
                        refine ⟨_, rfl, rfl, ?_⟩
                        have hm2 : Mem wb w' ((if L 13 then devAt T8 g Dx else devAt T8 g Dx) * (pts w0.heap.size 54 [.pointer (some ⟨g, 0, none⟩), .int .i64 (p : Int)] * R2) * R') := hm.fr hf'
                        show Mem wb w' ((if doneSet L 9 13 then devAt T8 g Dx else devAt T8 g Dx) * (pts w0.heap.size 54 [.pointer (some ⟨g, 0, none⟩), .int .i64 (p : Int)] * R2) * (emp * R'))
                        rw [show doneSet L 9 13 = L 13 from rfl, emp_sep]
                        exact hm2
                    · refine Fine2.run trivial _ rfl (fun _ => rfl) rfl rfl (fun L a w R' hw hm hmk hf => ?_)
                      have e7 : a.eval (.tmp 7) = (.int .i64 (k : Int) : Value) := (hf 7 (by decide +kernel)).old (by kernel_rfl)
                      simp only [Act.eval, Array.getD_eq_getD_getElem?] at e7
                      simp [execOp, resolve, invoke, builtin, go_sem, e7]
                    · refine Fine2.run trivial _ rfl (fun _ => rfl) rfl rfl (fun L a w R' hw hm hmk hf => ?_)
                      have e34 : a.eval (.tmp 34) = (.int .i64 (so : Int) : Value) := (hf 34 (by decide +kernel)).new 9 (by kernel_rfl) (by kernel_rfl)
                      have e35 : a.eval (.tmp 35) = (.int .i64 (k : Int) : Value) := (hf 35 (by decide +kernel)).new 10 (by kernel_rfl) (by kernel_rfl)
                      simp only [Act.eval, Array.getD_eq_getD_getElem?] at e34 e35
                      simp [execOp, resolve, invoke, builtin, go_sem, e34, e35, WS]
                    · refine Fine2.callP trivial rfl 25 #[(.agg #[.pointer (some ⟨g, 0, none⟩), .int .i64 (p : Int)]), (.int .i64 ((so : Int) + (k : Int)))] (fun a w hf => ?_) (fun L a w R' hL hw hm hmk hf hdf hcl => ?_)
                      · have e31 : a.eval (.tmp 31) = (.agg #[.pointer (some ⟨g, 0, none⟩), .int .i64 (p : Int)] : Value) := (hf 31 (by decide +kernel)).new 6 (by kernel_rfl) (by kernel_rfl)
                        have e36 : a.eval (.tmp 36) = (.int .i64 ((so : Int) + (k : Int)) : Value) := (hf 36 (by decide +kernel)).new 11 (by kernel_rfl) (by kernel_rfl)
                        simp only [Act.eval, Array.getD_eq_getD_getElem?] at e31 e36
                        simp [execOp, resolve, invoke, go_sem, e31, e36]
                      · have hm : Mem wb w ((if L 13 then devAt T8 g Dx else devAt T8 g Dx) * (pts w0.heap.size 54 [.pointer (some ⟨g, 0, none⟩), .int .i64 (p : Int)] * R2) * R') := hm
                        rw [ite_self] at hm
                        refine (HRD.out w (pts w0.heap.size 54 [.pointer (some ⟨g, 0, none⟩), .int .i64 (p : Int)] * R2 * R') (hm.eq (by ac_rfl))).mono ?_
                        intro e w' hs'
                        obtain ⟨rfl, hc, hm2⟩ := hs'.error rfl
                        exact .inr ⟨_, rfl, hdf, FIN.out _ _ _ HBE.out hc (hm2.eq (by ac_rfl) : Mem wb w' (pts w0.heap.size 54 [.pointer (some ⟨g, 0, none⟩), .int .i64 (p : Int)] * R' * (devAt T8 g Dx * R2))).right⟩
                    · exact Fine2.never trivial 37 (by decide +kernel) (fun a h => h.new 12 (by kernel_rfl) (by kernel_rfl))
                  · intro u w9 hu hm9
                    exact absurd (hu 38 13 rfl) (fun h => h)
                · obtain rfl : Dx = D1 := read_same HRR.out
                  have HBW : Hid (ioAgain p D0 = ((ioWrite (ho + k) bs).and fun _ => (redoFrom p nn (l.drop (j + 1)) (k + 1)).and rest) Dx) := by
                    show _ = _
                    rw [HCP.out]
                    exact Io.and_ok HRR.out
                  have HW : Hid (∀ w R' a2 c2, Mem wb w (devAt T8 g Dx * R') → Sl w a2 bs.length c2 (byts bs) → Calls Try.prog 43 #[(.agg #[.pointer (some ⟨g, 0, none⟩), .int .i64 (p : Int)]), .int .i64 ((ho : Int) + (k : Int)), .slice a2 bs.length c2] w (IoSays wb g R' (ioWrite (ho + k) bs Dx) unitB)) := by
                    show ∀ w R' a2 c2, _
                    intro w R' a2 c2 h hs
                    have := dwrite_any wb w R' g Dx h (by omega) (ho + k) (by omega) (p : Int) a2 _ c2 bs hs
                    rw [show ((ho + k : Nat) : Int) = (ho : Int) + (k : Int) by omega] at this
                    exact this
                  obtain ⟨rw2, HRW⟩ : ∃ r, Hid (ioWrite (ho + k) bs Dx = r) := ⟨_, hid rfl⟩
                  have HG : Hid (rw2.2.pend.length ≤ Dx.pend.length + 1) := by rw [← HRW.out]; exact hid (Io.Grows.write (ho + k) bs Dx)
                  rw [HRW.out] at HW
                  clear HCP HRR
                  rcases rw2 with ⟨e2 | u2, D2⟩
                  · have HBE : Hid (ioAgain p D0 = (.error e2, D2)) := by
                      show _ = _
                      rw [HBW.out]
                      exact Io.and_error HRW.out
                    clear HBW HRW HG
                    go_wp2_with fail
                    have WO := HWO.out
                    have WS := HWS.out
                    refine region_mem (by kernel_rfl) (V := fun jv x => match jv with | 0 => x = (.agg #[.pointer (some ⟨g, 0, none⟩), .int .i64 (p : Int)] : Value) | 1 => x = (.agg #[.pointer (some ⟨g, 0, none⟩), .int .i64 (p : Int)] : Value) | 2 => x = (.int .i64 (nn : Int) : Value) | 3 => x = (.int .i64 (ho : Int) : Value) | 4 => x = (.int .i64 (k : Int) : Value) | 5 => x = (.int .i64 ((ho : Int) + (k : Int)) : Value) | 6 => x = (.agg #[.pointer (some ⟨g, 0, none⟩), .int .i64 (p : Int)] : Value) | 7 => x = (.agg #[.pointer (some ⟨g, 0, none⟩), .int .i64 (p : Int)] : Value) | 8 => x = (.int .i64 (nn : Int) : Value) | 9 => x = (.int .i64 (so : Int) : Value) | 10 => x = (.int .i64 (k : Int) : Value) | 11 => x = (.int .i64 ((so : Int) + (k : Int)) : Value) | 12 => ∃ a2 c2, x = (.slice a2 bs.length c2 : Value) | 13 => False | _ => True) (A := (fun L => (if L 13 then devAt T8 g D2 else devAt T8 g Dx) * (pts w0.heap.size 54 [.pointer (some ⟨g, 0, none⟩), .int .i64 (p : Int)] * R2))) (Bs := [(12, none, bytesB bs)]) HM.out (fun L L' h => by show (if L 13 then _ else _) * _ = (if L' 13 then _ else _) * _; rw [h 13 (by decide)]) (show ([12] : List Nat).Nodup by decide) (by kernel_rfl) (by kernel_rfl) ?_ ?_
                    · refine ⟨?_, ?_, ?_, ?_, ?_, ?_, ?_, ?_, ?_, ?_, ?_, ?_, ?_, ?_, trivial⟩
                      · refine Fine2.run trivial _ rfl (fun _ => rfl) rfl rfl (fun L a w R' hw hm hmk hf => ?_)
                        have e1 : a.eval (.tmp 1) = (.pointer (some ⟨w0.heap.size, 0, none⟩) : Value) := (hf 1 (by decide +kernel)).old (by kernel_rfl)
                        simp only [Act.eval, Array.getD_eq_getD_getElem?] at e1
                        have hbx := hm.left.right
                        have q0 := hbx.cell 0
                        have q1 := hbx.cell 1
                        simp only [List.getElem?_cons_zero, List.getElem?_cons_succ] at q0 q1
                        simp [execOp, resolve, invoke, builtin, go_sem, e1, q0, q1]
                      · refine Fine2.run trivial _ rfl (fun _ => rfl) rfl rfl (fun L a w R' hw hm hmk hf => ?_)
                        have e1 : a.eval (.tmp 1) = (.pointer (some ⟨w0.heap.size, 0, none⟩) : Value) := (hf 1 (by decide +kernel)).old (by kernel_rfl)
                        simp only [Act.eval, Array.getD_eq_getD_getElem?] at e1
                        have hbx := hm.left.right
                        have q0 := hbx.cell 0
                        have q1 := hbx.cell 1
                        simp only [List.getElem?_cons_zero, List.getElem?_cons_succ] at q0 q1
                        simp [execOp, resolve, invoke, builtin, go_sem, e1, q0, q1]
                      · refine Fine2.run trivial _ rfl (fun _ => rfl) rfl rfl (fun L a w R' hw hm hmk hf => ?_)
                        have e6 : a.eval (.tmp 6) = (.int .i64 (nn : Int) : Value) := (hf 6 (by decide +kernel)).old (by kernel_rfl)
                        simp only [Act.eval, Array.getD_eq_getD_getElem?] at e6
                        simp [execOp, resolve, invoke, builtin, go_sem, e6]
                      · refine Fine2.call trivial rfl 44 #[(.agg #[.pointer (some ⟨g, 0, none⟩), .int .i64 (p : Int)]), (.int .i64 (nn : Int))] (fun a w hf => ?_) (fun L a w R' hL hw hm hmk hf => ?_)
                        · have e26 : a.eval (.tmp 26) = (.agg #[.pointer (some ⟨g, 0, none⟩), .int .i64 (p : Int)] : Value) := (hf 26 (by decide +kernel)).new 1 (by kernel_rfl) (by kernel_rfl)
                          have e27 : a.eval (.tmp 27) = (.int .i64 (nn : Int) : Value) := (hf 27 (by decide +kernel)).new 2 (by kernel_rfl) (by kernel_rfl)
                          simp only [Act.eval, Array.getD_eq_getD_getElem?] at e26 e27
                          simp [execOp, resolve, invoke, go_sem, e26, e27]
                        · refine (HHO.out w).mono ?_
                          rintro e w' ⟨rfl, hf'⟩
                          refine ⟨_, rfl, rfl, ?_⟩
                          have hm2 : Mem wb w' ((if L 13 then devAt T8 g D2 else devAt T8 g Dx) * (pts w0.heap.size 54 [.pointer (some ⟨g, 0, none⟩), .int .i64 (p : Int)] * R2) * R') := hm.fr hf'
                          show Mem wb w' ((if doneSet L 3 13 then devAt T8 g D2 else devAt T8 g Dx) * (pts w0.heap.size 54 [.pointer (some ⟨g, 0, none⟩), .int .i64 (p : Int)] * R2) * (emp * R'))
                          rw [show doneSet L 3 13 = L 13 from rfl, emp_sep]
                          exact hm2
                      · refine Fine2.run trivial _ rfl (fun _ => rfl) rfl rfl (fun L a w R' hw hm hmk hf => ?_)
                        have e7 : a.eval (.tmp 7) = (.int .i64 (k : Int) : Value) := (hf 7 (by decide +kernel)).old (by kernel_rfl)
                        simp only [Act.eval, Array.getD_eq_getD_getElem?] at e7
                        simp [execOp, resolve, invoke, builtin, go_sem, e7]
                      · refine Fine2.run trivial _ rfl (fun _ => rfl) rfl rfl (fun L a w R' hw hm hmk hf => ?_)
                        have e28 : a.eval (.tmp 28) = (.int .i64 (ho : Int) : Value) := (hf 28 (by decide +kernel)).new 3 (by kernel_rfl) (by kernel_rfl)
                        have e29 : a.eval (.tmp 29) = (.int .i64 (k : Int) : Value) := (hf 29 (by decide +kernel)).new 4 (by kernel_rfl) (by kernel_rfl)
                        simp only [Act.eval, Array.getD_eq_getD_getElem?] at e28 e29
                        simp [execOp, resolve, invoke, builtin, go_sem, e28, e29, WO]
                      · refine Fine2.run trivial _ rfl (fun _ => rfl) rfl rfl (fun L a w R' hw hm hmk hf => ?_)
                        have e1 : a.eval (.tmp 1) = (.pointer (some ⟨w0.heap.size, 0, none⟩) : Value) := (hf 1 (by decide +kernel)).old (by kernel_rfl)
                        simp only [Act.eval, Array.getD_eq_getD_getElem?] at e1
                        have hbx := hm.left.right
                        have q0 := hbx.cell 0
                        have q1 := hbx.cell 1
                        simp only [List.getElem?_cons_zero, List.getElem?_cons_succ] at q0 q1
                        simp [execOp, resolve, invoke, builtin, go_sem, e1, q0, q1]
                      · refine Fine2.run trivial _ rfl (fun _ => rfl) rfl rfl (fun L a w R' hw hm hmk hf => ?_)
                        have e1 : a.eval (.tmp 1) = (.pointer (some ⟨w0.heap.size, 0, none⟩) : Value) := (hf 1 (by decide +kernel)).old (by kernel_rfl)
                        simp only [Act.eval, Array.getD_eq_getD_getElem?] at e1
                        have hbx := hm.left.right
                        have q0 := hbx.cell 0
                        have q1 := hbx.cell 1
                        simp only [List.getElem?_cons_zero, List.getElem?_cons_succ] at q0 q1
                        simp [execOp, resolve, invoke, builtin, go_sem, e1, q0, q1]
                      · refine Fine2.run trivial _ rfl (fun _ => rfl) rfl rfl (fun L a w R' hw hm hmk hf => ?_)
                        have e6 : a.eval (.tmp 6) = (.int .i64 (nn : Int) : Value) := (hf 6 (by decide +kernel)).old (by kernel_rfl)
                        simp only [Act.eval, Array.getD_eq_getD_getElem?] at e6
                        simp [execOp, resolve, invoke, builtin, go_sem, e6]
                      · refine Fine2.call trivial rfl 45 #[(.agg #[.pointer (some ⟨g, 0, none⟩), .int .i64 (p : Int)]), (.int .i64 (nn : Int))] (fun a w hf => ?_) (fun L a w R' hL hw hm hmk hf => ?_)
                        · have e32 : a.eval (.tmp 32) = (.agg #[.pointer (some ⟨g, 0, none⟩), .int .i64 (p : Int)] : Value) := (hf 32 (by decide +kernel)).new 7 (by kernel_rfl) (by kernel_rfl)
                          have e33 : a.eval (.tmp 33) = (.int .i64 (nn : Int) : Value) := (hf 33 (by decide +kernel)).new 8 (by kernel_rfl) (by kernel_rfl)
                          simp only [Act.eval, Array.getD_eq_getD_getElem?] at e32 e33
                          simp [execOp, resolve, invoke, go_sem, e32, e33]
                        · refine (HSO.out w).mono ?_
                          rintro e w' ⟨rfl, hf'⟩
                          refine ⟨_, rfl, rfl, ?_⟩
                          have hm2 : Mem wb w' ((if L 13 then devAt T8 g D2 else devAt T8 g Dx) * (pts w0.heap.size 54 [.pointer (some ⟨g, 0, none⟩), .int .i64 (p : Int)] * R2) * R') := hm.fr hf'
                          show Mem wb w' ((if doneSet L 9 13 then devAt T8 g D2 else devAt T8 g Dx) * (pts w0.heap.size 54 [.pointer (some ⟨g, 0, none⟩), .int .i64 (p : Int)] * R2) * (emp * R'))
                          rw [show doneSet L 9 13 = L 13 from rfl, emp_sep]
                          exact hm2
                      · refine Fine2.run trivial _ rfl (fun _ => rfl) rfl rfl (fun L a w R' hw hm hmk hf => ?_)
                        have e7 : a.eval (.tmp 7) = (.int .i64 (k : Int) : Value) := (hf 7 (by decide +kernel)).old (by kernel_rfl)
                        simp only [Act.eval, Array.getD_eq_getD_getElem?] at e7
                        simp [execOp, resolve, invoke, builtin, go_sem, e7]
                      · refine Fine2.run trivial _ rfl (fun _ => rfl) rfl rfl (fun L a w R' hw hm hmk hf => ?_)
                        have e34 : a.eval (.tmp 34) = (.int .i64 (so : Int) : Value) := (hf 34 (by decide +kernel)).new 9 (by kernel_rfl) (by kernel_rfl)
                        have e35 : a.eval (.tmp 35) = (.int .i64 (k : Int) : Value) := (hf 35 (by decide +kernel)).new 10 (by kernel_rfl) (by kernel_rfl)
                        simp only [Act.eval, Array.getD_eq_getD_getElem?] at e34 e35
                        simp [execOp, resolve, invoke, builtin, go_sem, e34, e35, WS]
                      · refine Fine2.callP trivial rfl 25 #[(.agg #[.pointer (some ⟨g, 0, none⟩), .int .i64 (p : Int)]), (.int .i64 ((so : Int) + (k : Int)))] (fun a w hf => ?_) (fun L a w R' hL hw hm hmk hf hdf hcl => ?_)
                        · have e31 : a.eval (.tmp 31) = (.agg #[.pointer (some ⟨g, 0, none⟩), .int .i64 (p : Int)] : Value) := (hf 31 (by decide +kernel)).new 6 (by kernel_rfl) (by kernel_rfl)
                          have e36 : a.eval (.tmp 36) = (.int .i64 ((so : Int) + (k : Int)) : Value) := (hf 36 (by decide +kernel)).new 11 (by kernel_rfl) (by kernel_rfl)
                          simp only [Act.eval, Array.getD_eq_getD_getElem?] at e31 e36
                          simp [execOp, resolve, invoke, go_sem, e31, e36]
                        · have hm : Mem wb w ((if L 13 then devAt T8 g D2 else devAt T8 g Dx) * (pts w0.heap.size 54 [.pointer (some ⟨g, 0, none⟩), .int .i64 (p : Int)] * R2) * R') := hm
                          have hL13 : L 13 = false := not_done hcl hL 13 _ rfl (by kernel_rfl)
                          rw [hL13] at hm
                          have hm : Mem wb w (devAt T8 g Dx * (pts w0.heap.size 54 [.pointer (some ⟨g, 0, none⟩), .int .i64 (p : Int)] * R2) * R') := hm
                          refine (HRD.out w (pts w0.heap.size 54 [.pointer (some ⟨g, 0, none⟩), .int .i64 (p : Int)] * R2 * R') (hm.eq (by ac_rfl))).mono ?_
                          intro e w' hs'
                          obtain ⟨v, rfl, hm2⟩ := hs'.ok rfl
                          obtain ⟨a2, c2, hv, -⟩ := Mem.rowB.1 hm2
                          refine .inl ⟨v, rfl, ⟨a2, c2, hv⟩, ?_⟩
                          show Mem wb w' ((if doneSet L 12 13 then devAt T8 g D2 else devAt T8 g Dx) * (pts w0.heap.size 54 [.pointer (some ⟨g, 0, none⟩), .int .i64 (p : Int)] * R2) * (bytesB bs v * R'))
                          rw [show doneSet L 12 13 = L 13 from rfl, hL13]
                          exact hm2.eq (by show _ = devAt T8 g Dx * (pts w0.heap.size 54 [.pointer (some ⟨g, 0, none⟩), .int .i64 (p : Int)] * R2) * (bytesB bs v * R'); ac_rfl)
                      · refine .inl ⟨trivial, fun L a w Kq Rq hL hw hm hmk hf hdf hcl hK => ?_⟩
                        rw [eaten_none rfl, emp_sep] at hm
                        obtain ⟨R3, hR3⟩ := hmk [true] (by kernel_rfl)
                        have hm : Mem wb w ((if L 13 then devAt T8 g D2 else devAt T8 g Dx) * (pts w0.heap.size 54 [.pointer (some ⟨g, 0, none⟩), .int .i64 (p : Int)] * R2) * Rq) := hm
                        rw [hL] at hm
                        have hm : Mem wb w (devAt T8 g Dx * (pts w0.heap.size 54 [.pointer (some ⟨g, 0, none⟩), .int .i64 (p : Int)] * R2) * Rq) := hm
                        have hm' := hm
                        rw [hR3] at hm'
                        obtain ⟨a2, c2, y, m1⟩ := Mem.rowB.1 (show Mem wb w (_ * (_ * R3)) from hm').p1
                        have e37 : a.eval (.tmp 37) = .slice a2 bs.length c2 := y
                        have e25 : a.eval (.tmp 25) = (.agg #[.pointer (some ⟨g, 0, none⟩), .int .i64 (p : Int)] : Value) := (hf 25 (by decide +kernel)).new 0 (by kernel_rfl) (by kernel_rfl)
                        have e30 : a.eval (.tmp 30) = (.int .i64 ((ho : Int) + (k : Int)) : Value) := (hf 30 (by decide +kernel)).new 5 (by kernel_rfl) (by kernel_rfl)
                        simp only [Act.eval, Array.getD_eq_getD_getElem?] at e25 e30 e37
                        unfold Oper.wp
                        rw [show (execOp a.eval _).run Try.prog w = .ok (.enter 43 #[(.agg #[.pointer (some ⟨g, 0, none⟩), .int .i64 (p : Int)]), (.int .i64 ((ho : Int) + (k : Int))), .slice a2 bs.length c2]) w from by simp [execOp, resolve, invoke, go_sem, e25, e30, e37]]
                        refine (HW.out w (pts w0.heap.size 54 [.pointer (some ⟨g, 0, none⟩), .int .i64 (p : Int)] * R2 * Rq) a2 c2 (hm.eq (by ac_rfl)) m1.row_sl).mono ?_
                        intro e w' hs'
                        obtain ⟨rfl, hc, hm2⟩ := hs'.error rfl
                        exact ⟨hdf, FIN.out _ _ _ HBE.out hc (hm2.eq (by ac_rfl) : Mem wb w' (pts w0.heap.size 54 [.pointer (some ⟨g, 0, none⟩), .int .i64 (p : Int)] * Rq * (devAt T8 g D2 * R2))).right⟩
                    · intro u w9 hu hm9
                      exact absurd (hu 38 13 rfl) (fun h => h)
                  · have HBE : Hid (ioAgain p D0 = ((redoFrom p nn (l.drop (j + 1)) (k + 1)).and rest) D2) := by
                      show _ = _
                      rw [HBW.out]
                      exact Io.and_ok HRW.out
                    have HPD : Hid (D2.pend.length ≤ D0.pend.length + 2 * j + (k + 1)) := by show _ ≤ _; have h2 : D2.pend.length ≤ Dx.pend.length + 1 := HG.out; omega
                    clear HBW HRW HG
                    go_wp2_with fail
                    have WO := HWO.out
                    have WS := HWS.out
                    refine region_mem (by kernel_rfl) (V := fun jv x => match jv with | 0 => x = (.agg #[.pointer (some ⟨g, 0, none⟩), .int .i64 (p : Int)] : Value) | 1 => x = (.agg #[.pointer (some ⟨g, 0, none⟩), .int .i64 (p : Int)] : Value) | 2 => x = (.int .i64 (nn : Int) : Value) | 3 => x = (.int .i64 (ho : Int) : Value) | 4 => x = (.int .i64 (k : Int) : Value) | 5 => x = (.int .i64 ((ho : Int) + (k : Int)) : Value) | 6 => x = (.agg #[.pointer (some ⟨g, 0, none⟩), .int .i64 (p : Int)] : Value) | 7 => x = (.agg #[.pointer (some ⟨g, 0, none⟩), .int .i64 (p : Int)] : Value) | 8 => x = (.int .i64 (nn : Int) : Value) | 9 => x = (.int .i64 (so : Int) : Value) | 10 => x = (.int .i64 (k : Int) : Value) | 11 => x = (.int .i64 ((so : Int) + (k : Int)) : Value) | 12 => ∃ a2 c2, x = (.slice a2 bs.length c2 : Value) | 13 => x = (.tuple #[] : Value) | _ => True) (A := (fun L => (if L 13 then devAt T8 g D2 else devAt T8 g Dx) * (pts w0.heap.size 54 [.pointer (some ⟨g, 0, none⟩), .int .i64 (p : Int)] * R2))) (Bs := [(12, none, bytesB bs)]) HM.out (fun L L' h => by show (if L 13 then _ else _) * _ = (if L' 13 then _ else _) * _; rw [h 13 (by decide)]) (show ([12] : List Nat).Nodup by decide) (by kernel_rfl) (by kernel_rfl) ?_ ?_
                    · refine ⟨?_, ?_, ?_, ?_, ?_, ?_, ?_, ?_, ?_, ?_, ?_, ?_, ?_, ?_, trivial⟩
                      · refine Fine2.run trivial _ rfl (fun _ => rfl) rfl rfl (fun L a w R' hw hm hmk hf => ?_)
                        have e1 : a.eval (.tmp 1) = (.pointer (some ⟨w0.heap.size, 0, none⟩) : Value) := (hf 1 (by decide +kernel)).old (by kernel_rfl)
                        simp only [Act.eval, Array.getD_eq_getD_getElem?] at e1
                        have hbx := hm.left.right
                        have q0 := hbx.cell 0
                        have q1 := hbx.cell 1
                        simp only [List.getElem?_cons_zero, List.getElem?_cons_succ] at q0 q1
                        simp [execOp, resolve, invoke, builtin, go_sem, e1, q0, q1]
                      · refine Fine2.run trivial _ rfl (fun _ => rfl) rfl rfl (fun L a w R' hw hm hmk hf => ?_)
                        have e1 : a.eval (.tmp 1) = (.pointer (some ⟨w0.heap.size, 0, none⟩) : Value) := (hf 1 (by decide +kernel)).old (by kernel_rfl)
                        simp only [Act.eval, Array.getD_eq_getD_getElem?] at e1
                        have hbx := hm.left.right
                        have q0 := hbx.cell 0
                        have q1 := hbx.cell 1
                        simp only [List.getElem?_cons_zero, List.getElem?_cons_succ] at q0 q1
                        simp [execOp, resolve, invoke, builtin, go_sem, e1, q0, q1]
                      · refine Fine2.run trivial _ rfl (fun _ => rfl) rfl rfl (fun L a w R' hw hm hmk hf => ?_)
                        have e6 : a.eval (.tmp 6) = (.int .i64 (nn : Int) : Value) := (hf 6 (by decide +kernel)).old (by kernel_rfl)
                        simp only [Act.eval, Array.getD_eq_getD_getElem?] at e6
                        simp [execOp, resolve, invoke, builtin, go_sem, e6]
                      · refine Fine2.call trivial rfl 44 #[(.agg #[.pointer (some ⟨g, 0, none⟩), .int .i64 (p : Int)]), (.int .i64 (nn : Int))] (fun a w hf => ?_) (fun L a w R' hL hw hm hmk hf => ?_)
                        · have e26 : a.eval (.tmp 26) = (.agg #[.pointer (some ⟨g, 0, none⟩), .int .i64 (p : Int)] : Value) := (hf 26 (by decide +kernel)).new 1 (by kernel_rfl) (by kernel_rfl)
                          have e27 : a.eval (.tmp 27) = (.int .i64 (nn : Int) : Value) := (hf 27 (by decide +kernel)).new 2 (by kernel_rfl) (by kernel_rfl)
                          simp only [Act.eval, Array.getD_eq_getD_getElem?] at e26 e27
                          simp [execOp, resolve, invoke, go_sem, e26, e27]
                        · refine (HHO.out w).mono ?_
                          rintro e w' ⟨rfl, hf'⟩
                          refine ⟨_, rfl, rfl, ?_⟩
                          have hm2 : Mem wb w' ((if L 13 then devAt T8 g D2 else devAt T8 g Dx) * (pts w0.heap.size 54 [.pointer (some ⟨g, 0, none⟩), .int .i64 (p : Int)] * R2) * R') := hm.fr hf'
                          show Mem wb w' ((if doneSet L 3 13 then devAt T8 g D2 else devAt T8 g Dx) * (pts w0.heap.size 54 [.pointer (some ⟨g, 0, none⟩), .int .i64 (p : Int)] * R2) * (emp * R'))
                          rw [show doneSet L 3 13 = L 13 from rfl, emp_sep]
                          exact hm2
                      · refine Fine2.run trivial _ rfl (fun _ => rfl) rfl rfl (fun L a w R' hw hm hmk hf => ?_)
                        have e7 : a.eval (.tmp 7) = (.int .i64 (k : Int) : Value) := (hf 7 (by decide +kernel)).old (by kernel_rfl)
                        simp only [Act.eval, Array.getD_eq_getD_getElem?] at e7
                        simp [execOp, resolve, invoke, builtin, go_sem, e7]
                      · refine Fine2.run trivial _ rfl (fun _ => rfl) rfl rfl (fun L a w R' hw hm hmk hf => ?_)
                        have e28 : a.eval (.tmp 28) = (.int .i64 (ho : Int) : Value) := (hf 28 (by decide +kernel)).new 3 (by kernel_rfl) (by kernel_rfl)
                        have e29 : a.eval (.tmp 29) = (.int .i64 (k : Int) : Value) := (hf 29 (by decide +kernel)).new 4 (by kernel_rfl) (by kernel_rfl)
                        simp only [Act.eval, Array.getD_eq_getD_getElem?] at e28 e29
                        simp [execOp, resolve, invoke, builtin, go_sem, e28, e29, WO]
                      · refine Fine2.run trivial _ rfl (fun _ => rfl) rfl rfl (fun L a w R' hw hm hmk hf => ?_)
                        have e1 : a.eval (.tmp 1) = (.pointer (some ⟨w0.heap.size, 0, none⟩) : Value) := (hf 1 (by decide +kernel)).old (by kernel_rfl)
                        simp only [Act.eval, Array.getD_eq_getD_getElem?] at e1
                        have hbx := hm.left.right
                        have q0 := hbx.cell 0
                        have q1 := hbx.cell 1
                        simp only [List.getElem?_cons_zero, List.getElem?_cons_succ] at q0 q1
                        simp [execOp, resolve, invoke, builtin, go_sem, e1, q0, q1]
                      · refine Fine2.run trivial _ rfl (fun _ => rfl) rfl rfl (fun L a w R' hw hm hmk hf => ?_)
                        have e1 : a.eval (.tmp 1) = (.pointer (some ⟨w0.heap.size, 0, none⟩) : Value) := (hf 1 (by decide +kernel)).old (by kernel_rfl)
                        simp only [Act.eval, Array.getD_eq_getD_getElem?] at e1
                        have hbx := hm.left.right
                        have q0 := hbx.cell 0
                        have q1 := hbx.cell 1
                        simp only [List.getElem?_cons_zero, List.getElem?_cons_succ] at q0 q1
                        simp [execOp, resolve, invoke, builtin, go_sem, e1, q0, q1]
                      · refine Fine2.run trivial _ rfl (fun _ => rfl) rfl rfl (fun L a w R' hw hm hmk hf => ?_)
                        have e6 : a.eval (.tmp 6) = (.int .i64 (nn : Int) : Value) := (hf 6 (by decide +kernel)).old (by kernel_rfl)
                        simp only [Act.eval, Array.getD_eq_getD_getElem?] at e6
                        simp [execOp, resolve, invoke, builtin, go_sem, e6]
                      · refine Fine2.call trivial rfl 45 #[(.agg #[.pointer (some ⟨g, 0, none⟩), .int .i64 (p : Int)]), (.int .i64 (nn : Int))] (fun a w hf => ?_) (fun L a w R' hL hw hm hmk hf => ?_)
                        · have e32 : a.eval (.tmp 32) = (.agg #[.pointer (some ⟨g, 0, none⟩), .int .i64 (p : Int)] : Value) := (hf 32 (by decide +kernel)).new 7 (by kernel_rfl) (by kernel_rfl)
                          have e33 : a.eval (.tmp 33) = (.int .i64 (nn : Int) : Value) := (hf 33 (by decide +kernel)).new 8 (by kernel_rfl) (by kernel_rfl)
                          simp only [Act.eval, Array.getD_eq_getD_getElem?] at e32 e33
                          simp [execOp, resolve, invoke, go_sem, e32, e33]
                        · refine (HSO.out w).mono ?_
                          rintro e w' ⟨rfl, hf'⟩
                          refine ⟨_, rfl, rfl, ?_⟩
                          have hm2 : Mem wb w' ((if L 13 then devAt T8 g D2 else devAt T8 g Dx) * (pts w0.heap.size 54 [.pointer (some ⟨g, 0, none⟩), .int .i64 (p : Int)] * R2) * R') := hm.fr hf'
                          show Mem wb w' ((if doneSet L 9 13 then devAt T8 g D2 else devAt T8 g Dx) * (pts w0.heap.size 54 [.pointer (some ⟨g, 0, none⟩), .int .i64 (p : Int)] * R2) * (emp * R'))
                          rw [show doneSet L 9 13 = L 13 from rfl, emp_sep]
                          exact hm2
                      · refine Fine2.run trivial _ rfl (fun _ => rfl) rfl rfl (fun L a w R' hw hm hmk hf => ?_)
                        have e7 : a.eval (.tmp 7) = (.int .i64 (k : Int) : Value) := (hf 7 (by decide +kernel)).old (by kernel_rfl)
                        simp only [Act.eval, Array.getD_eq_getD_getElem?] at e7
                        simp [execOp, resolve, invoke, builtin, go_sem, e7]
                      · refine Fine2.run trivial _ rfl (fun _ => rfl) rfl rfl (fun L a w R' hw hm hmk hf => ?_)
                        have e34 : a.eval (.tmp 34) = (.int .i64 (so : Int) : Value) := (hf 34 (by decide +kernel)).new 9 (by kernel_rfl) (by kernel_rfl)
                        have e35 : a.eval (.tmp 35) = (.int .i64 (k : Int) : Value) := (hf 35 (by decide +kernel)).new 10 (by kernel_rfl) (by kernel_rfl)
                        simp only [Act.eval, Array.getD_eq_getD_getElem?] at e34 e35
                        simp [execOp, resolve, invoke, builtin, go_sem, e34, e35, WS]
                      · refine Fine2.callP trivial rfl 25 #[(.agg #[.pointer (some ⟨g, 0, none⟩), .int .i64 (p : Int)]), (.int .i64 ((so : Int) + (k : Int)))] (fun a w hf => ?_) (fun L a w R' hL hw hm hmk hf hdf hcl => ?_)
                        · have e31 : a.eval (.tmp 31) = (.agg #[.pointer (some ⟨g, 0, none⟩), .int .i64 (p : Int)] : Value) := (hf 31 (by decide +kernel)).new 6 (by kernel_rfl) (by kernel_rfl)
                          have e36 : a.eval (.tmp 36) = (.int .i64 ((so : Int) + (k : Int)) : Value) := (hf 36 (by decide +kernel)).new 11 (by kernel_rfl) (by kernel_rfl)
                          simp only [Act.eval, Array.getD_eq_getD_getElem?] at e31 e36
                          simp [execOp, resolve, invoke, go_sem, e31, e36]
                        · have hm : Mem wb w ((if L 13 then devAt T8 g D2 else devAt T8 g Dx) * (pts w0.heap.size 54 [.pointer (some ⟨g, 0, none⟩), .int .i64 (p : Int)] * R2) * R') := hm
                          have hL13 : L 13 = false := not_done hcl hL 13 _ rfl (by kernel_rfl)
                          rw [hL13] at hm
                          have hm : Mem wb w (devAt T8 g Dx * (pts w0.heap.size 54 [.pointer (some ⟨g, 0, none⟩), .int .i64 (p : Int)] * R2) * R') := hm
                          refine (HRD.out w (pts w0.heap.size 54 [.pointer (some ⟨g, 0, none⟩), .int .i64 (p : Int)] * R2 * R') (hm.eq (by ac_rfl))).mono ?_
                          intro e w' hs'
                          obtain ⟨v, rfl, hm2⟩ := hs'.ok rfl
                          obtain ⟨a2, c2, hv, -⟩ := Mem.rowB.1 hm2
                          refine .inl ⟨v, rfl, ⟨a2, c2, hv⟩, ?_⟩
                          show Mem wb w' ((if doneSet L 12 13 then devAt T8 g D2 else devAt T8 g Dx) * (pts w0.heap.size 54 [.pointer (some ⟨g, 0, none⟩), .int .i64 (p : Int)] * R2) * (bytesB bs v * R'))
                          rw [show doneSet L 12 13 = L 13 from rfl, hL13]
                          exact hm2.eq (by show _ = devAt T8 g Dx * (pts w0.heap.size 54 [.pointer (some ⟨g, 0, none⟩), .int .i64 (p : Int)] * R2) * (bytesB bs v * R'); ac_rfl)
                      · refine .inl ⟨trivial, fun L a w Kq Rq hL hw hm hmk hf hdf hcl hK => ?_⟩
                        rw [eaten_none rfl, emp_sep] at hm
                        obtain ⟨R3, hR3⟩ := hmk [true] (by kernel_rfl)
                        have hm : Mem wb w ((if L 13 then devAt T8 g D2 else devAt T8 g Dx) * (pts w0.heap.size 54 [.pointer (some ⟨g, 0, none⟩), .int .i64 (p : Int)] * R2) * Rq) := hm
                        rw [hL] at hm
                        have hm : Mem wb w (devAt T8 g Dx * (pts w0.heap.size 54 [.pointer (some ⟨g, 0, none⟩), .int .i64 (p : Int)] * R2) * Rq) := hm
                        have hm' := hm
                        rw [hR3] at hm'
                        obtain ⟨a2, c2, y, m1⟩ := Mem.rowB.1 (show Mem wb w (_ * (_ * R3)) from hm').p1
                        have e37 : a.eval (.tmp 37) = .slice a2 bs.length c2 := y
                        have e25 : a.eval (.tmp 25) = (.agg #[.pointer (some ⟨g, 0, none⟩), .int .i64 (p : Int)] : Value) := (hf 25 (by decide +kernel)).new 0 (by kernel_rfl) (by kernel_rfl)
                        have e30 : a.eval (.tmp 30) = (.int .i64 ((ho : Int) + (k : Int)) : Value) := (hf 30 (by decide +kernel)).new 5 (by kernel_rfl) (by kernel_rfl)
                        simp only [Act.eval, Array.getD_eq_getD_getElem?] at e25 e30 e37
                        unfold Oper.wp
                        rw [show (execOp a.eval _).run Try.prog w = .ok (.enter 43 #[(.agg #[.pointer (some ⟨g, 0, none⟩), .int .i64 (p : Int)]), (.int .i64 ((ho : Int) + (k : Int))), .slice a2 bs.length c2]) w from by simp [execOp, resolve, invoke, go_sem, e25, e30, e37]]
                        refine (HW.out w (pts w0.heap.size 54 [.pointer (some ⟨g, 0, none⟩), .int .i64 (p : Int)] * R2 * Rq) a2 c2 (hm.eq (by ac_rfl)) m1.row_sl).mono ?_
                        intro e w' hs'
                        obtain ⟨rfl, hm2⟩ := hs'.unit rfl
                        refine hK _ _ rfl ?_
                        show Mem wb w' ((if doneSet L 13 13 then devAt T8 g D2 else devAt T8 g Dx) * (pts w0.heap.size 54 [.pointer (some ⟨g, 0, none⟩), .int .i64 (p : Int)] * R2) * (emp * Rq))
                        rw [show doneSet L 13 13 = true from rfl, emp_sep]
                        exact hm2.eq (by show _ = devAt T8 g D2 * (pts w0.heap.size 54 [.pointer (some ⟨g, 0, none⟩), .int .i64 (p : Int)] * R2) * Rq; ac_rfl)
                    · intro u w9 hu hm9
                      have HM9 := hid (hm9.left : Mem wb w9 (devAt T8 g D2 * (pts w0.heap.size 54 [.pointer (some ⟨g, 0, none⟩), .int .i64 (p : Int)] * R2)))
                      simp only [putAll]
                      clear hm9 hu HW HM WO WS
                      go_simp
                      go_wp2_with fail
                      go_roundw
                      case rel => exact ⟨k + 1, D2, by omega, by go_num, by have := HPD.out; omega, HBE.out, HM9.out⟩
                      case measure => simp [intOf] <;> omega
              · obtain rfl : k = 2 := by omega
                rw [show ((2 : Nat) : Int) = 2 from rfl]
                have HIO3 : Hid (ioAgain p D0 = ((ioRedo p (l.drop (j + 1))).and rest) D1) := HIO1
                clear HIO1
                go_wp2_with fail
                go_roundw
                case rel => exact ⟨j + 1, D1, by omega, by go_num, by omega, HIO3.out, HM.out⟩
                case measure => simp [intOf] <;> omega
          · obtain rfl : j = l.length := by omega
            have HB3 : Hid (ioAgain p D0 = rest () Dj) := by
              show _ = _
              rw [HIO.out, List.drop_of_length_le (Nat.le_refl _)]
              rfl
            rw [HRE.out] at HB3
            obtain ⟨q0, q1⟩ := HBX.out _ _ HM.out.right
            have HFL := hid (dflush_any wb wr _ g Dj HM.out (by omega) (p : Int))
            obtain ⟨rf, HRF⟩ : ∃ r, Hid (ioFlush Dj = r) := ⟨_, hid rfl⟩
            have HG : Hid (rf.2.pend.length ≤ Dj.pend.length) := by rw [← HRF.out]; exact hid (Io.Grows.flush Dj)
            rw [HRF.out] at HFL
            clear HIO HRE HM
            rcases rf with ⟨e2 | u2, D2⟩
            · have HBE : Hid (ioAgain p D0 = (.error e2, D2)) := by
                show _ = _
                rw [HB3.out]
                exact Io.and_error HRF.out
              clear HB3 HRF
              go_wp2_with fail
              refine HFL.out.mono ?_
              intro e w4 hs'
              obtain ⟨rfl, hc, hm2⟩ := hs'.error rfl
              dsimp only
              exact ⟨rfl, FIN.out _ _ _ HBE.out hc hm2.p1.right⟩
            · have HB4 : Hid (ioAgain p D0 = ((ioFalls m).and fun _ => Io.ret true) D2) := by
                show _ = _
                rw [HB3.out]
                exact Io.and_ok HRF.out
              have HP2 : Hid (D2.pend.length ≤ 900000000) := by show _ ≤ _; have h2 : D2.pend.length ≤ Dj.pend.length := HG.out; omega
              clear HB3 HRF HG
              go_wp2_with fail
              refine HFL.out.mono ?_
              intro e w4 hs'
              obtain ⟨rfl, hm2⟩ := hs'.unit rfl
              dsimp only
              obtain ⟨q0, q1⟩ := HBX.out _ _ hm2.right
              rw [HR2d.out] at hm2
              have hm5 := hm2.eq (by ac_rfl : _ = devAt T8 g D2 * (row 5 1 am 512 cm (byts m) * (pts w0.heap.size 54 [.pointer (some ⟨g, 0, none⟩), .int .i64 (p : Int)] * (row 3 1 al l.length cl (nums l) * R))))
              have HFA := hid (falls_any wb w4 _ g D2 am cm m HML.out hm5 HP2.out (p : Int))
              obtain ⟨ra, HRA⟩ : ∃ r, Hid (ioFalls m D2 = r) := ⟨_, hid rfl⟩
              rw [HRA.out] at HFA
              clear hm2 hm5 hs' HFL
              rcases ra with ⟨e3 | u3, D3⟩
              · have HBE : Hid (ioAgain p D0 = (.error e3, D3)) := by
                  show _ = _
                  rw [HB4.out]
                  exact Io.and_error HRA.out
                clear HB4 HRA
                go_wp2_with fail
                refine HFA.out.mono ?_
                intro e w5 hs'
                obtain ⟨rfl, hc, hm2⟩ := hs'.error rfl
                dsimp only
                exact ⟨rfl, IoSays.mkError HBE.out hc (hm2.eq (by ac_rfl) : Mem wb w5 (row 5 1 am 512 cm (byts (m.set 511 0)) * (pts w0.heap.size 54 [.pointer (some ⟨g, 0, none⟩), .int .i64 (p : Int)] * (row 3 1 al l.length cl (nums l) * (devAt T8 g D3 * R))))).right.right.right⟩
              · have HBE : Hid (ioAgain p D0 = (.ok true, D3)) := by
                  show _ = _
                  rw [HB4.out]
                  exact Io.and_ok HRA.out
                clear HB4 HRA
                go_wp2_with fail
                refine HFA.out.mono ?_
                intro e w5 hs'
                obtain ⟨rfl, hm2⟩ := hs'.unit rfl
                dsimp only
                have HM6 := (hm2.eq (by ac_rfl) : Mem wb w5 (row 5 1 am 512 cm (byts (m.set 511 0)) * (pts w0.heap.size 54 [.pointer (some ⟨g, 0, none⟩), .int .i64 (p : Int)] * (row 3 1 al l.length cl (nums l) * (devAt T8 g D3 * R))))).right.right.right
                have HM6 := hid HM6
                clear hm2 hs'
                go_wp2_with fail
                go_ret
                exact IoSays.mkOk HBE.out (by unfold boolB; rw [Mem.pur]; exact ⟨rfl, HM6.out⟩)
end Go.Proofs.Ytpaebopmppbjbaa
