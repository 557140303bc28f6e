/- The walk of wal's wiped. -/
import Derived.Test.YtpaebopmppbjbaaWal5
set_option linter.unusedVariables false
set_option linter.unusedSimpArgs false
namespace Go.Le
open Go Go.RowKit
theorem drop_cons {α : Type} (l : List α) (k : Nat) (h : k < l.length) : l.drop k = l[k] :: l.drop (k + 1) := List.drop_eq_getElem_cons h
end Go.Le
namespace Go.Proofs.Ytpaebopmppbjbaa
open Go Go.RowKit Go.Le
theorem u8info' : (Try.prog.info? 5).map (fun i => (i.zero, i.size, i.bytes)) = some (some (.int .u8 0), 1, 1) := by kernel_rfl

set_option maxRecDepth 20000 in
set_option maxHeartbeats 4000000 in
theorem wiped_any (wb w0 : World) (R : HP) (g : Nat) (D : Dev) (h : Mem wb w0 (devAt T8 g D * R)) (p : Int) (a : Option Addr) (n c : Nat) (l : List Nat) (hn : n ≤ 10000) (hpl : D.pend.length ≤ 900000000) (hs : ∀ w', Mem wb w' R → Sl w' a n c (nums l)) (hl : ∀ x ∈ l, x ≤ 900000000) :
    Calls Try.prog 21 #[.agg #[.pointer (some ⟨g, 0, none⟩), .int .i64 p], .slice a n c] w0 (IoSays wb g R (ioWiped l D) unitB) := by
  have hbx := h.alloc [.pointer (some ⟨g, 0, none⟩), .int .i64 p] 54
  have HM0 := hid (hbx.eq (by ac_rfl) : Mem wb _ (devAt T8 g D * (pts w0.heap.size 54 [.pointer (some ⟨g, 0, none⟩), .int .i64 p] * R)))
  have HS : Hid (∀ w', Mem wb w' R → Sl w' a n c (nums l)) := hs
  have hsl := hs _ hbx.right.right
  have hle := hsl.le
  have hcap := hsl.cap
  have hlen := hsl.len
  rw [nums_length] at hlen
  have HL := hid hlen
  have HLE := hid hl
  have HBX : Hid (∀ w' R', Mem wb w' (pts w0.heap.size 54 [.pointer (some ⟨g, 0, none⟩), .int .i64 p] * R') → w'.cell? ⟨w0.heap.size, 0, none⟩ = some (.pointer (some ⟨g, 0, none⟩)) ∧ w'.cell? ⟨w0.heap.size, 1, none⟩ = some (.int .i64 p)) := fun w' R' h => ⟨h.cell 0, h.cell 1⟩
  have HMK : Hid (∀ w : World, (Instr.makeSlice 37 (.int .i64 512) (.int .i64 512)).run Try.prog w = .ok (.slice (some ⟨w.heap.size, 0, none⟩) 512 512) (w.alloc (.cells (byts sect0).toArray 5))) := by
    show ∀ w, _
    intro w
    have h1 := run_make_bytes (P := Try.prog) 37 5 Try.underlying37 u8info' .i64 .i64 (512 : Int) (by omega) (by omega) w
    rw [show (512 : Int).toNat = 512 from rfl] at h1
    rw [h1, show List.replicate 512 (Value.int .u8 0) = byts sect0 by unfold sect0 zrs; rw [byts_zeros]]
  clear h hbx hs hsl hlen hl
  go_enter Try.func21, Try.ntmps21
  go_wp2_with fail
  go_loopw [4, 6, 9] (fun sv _ i wr => ∃ (k : Nat) (s : Bool) (D' : Dev), k ≤ n ∧ i = .int .i64 k ∧ sv = .bool s ∧ D'.pend.length ≤ D.pend.length + k ∧ ioWiped l D = ((ioWipe s (l.drop k)).and fun s => if s then ioFlush else Io.ret ()) D' ∧
    Mem wb wr (devAt T8 g D' * (pts w0.heap.size 54 [.pointer (some ⟨g, 0, none⟩), .int .i64 p] * R))) (fun _ _ i _ => n - (intOf i).toNat)
  case atStart => exact ⟨0, false, D, by omega, rfl, rfl, by omega, by rw [List.drop_zero]; rfl, HM0.out⟩
  case round =>
    obtain ⟨k, s, D1, hk, rfl, rfl, hpd, hio, hm⟩ := hrel
    have HM := hid hm
    have HIO := hid hio
    clear HM0 hm hio
    by_cases hlt : k < n
    · have hsl := HS.out _ HM.out.right.right
      obtain ⟨b, o, rfl⟩ := hsl.addr (by omega)
      have hcb := hsl.at k hlt
      have hkl : k < l.length := by rw [HL.out]; exact hlt
      have e3 : (nums l)[k]'(by rw [nums_length]; exact hkl) = .int .i64 ((l[k] : Nat) : Int) := by simp [nums]
      rw [e3] at hcb
      have hxi := HLE.out l[k] (List.getElem_mem hkl)
      have HDC := hid (drop_cons l k hkl)
      generalize l[k] = xi at *
      obtain ⟨q0, q1⟩ := HBX.out _ _ HM.out.right
      have HRD := hid (dread_any wb wr _ g D1 HM.out (by omega) xi (by omega) p)
      have kn : (k : Int) < (n : Int) := by omega
      obtain ⟨rr, HRR⟩ : ∃ r, Hid (ioRead xi D1 = r) := ⟨_, hid rfl⟩
      rw [HRR.out] at HRD
      clear hsl e3
      rcases rr with ⟨e1 | bs, Dx⟩
      · have HBE : Hid (ioWiped l D = (.error e1, Dx)) := by
          show _ = _
          rw [HIO.out, HDC.out]
          show (((ioRead xi).and _).and _) D1 = _
          rw [Io.and_assoc]
          exact Io.and_error HRR.out
        clear HIO HDC HRR
        go_wp2_with fail
        refine HRD.out.mono ?_
        intro e w2 hs'
        obtain ⟨rfl, hc, hm2⟩ := hs'.error rfl
        dsimp only
        exact ⟨rfl, IoSays.mkError HBE.out hc hm2.p1.right⟩
      · have hDx : Dx = D1 := by
          have h1 := HRR.out
          unfold ioRead at h1
          split at h1
          · cases h1; rfl
          · cases h1
        subst hDx
        have HBE : Hid (ioWiped l D = ((if allZero bs then ioWipe s (l.drop (k + 1)) else (ioWrite xi sect0).and fun _ => ioWipe true (l.drop (k + 1))).and fun s => if s then ioFlush else Io.ret ()) Dx) := by
          show _ = _
          rw [HIO.out, HDC.out]
          show (((ioRead xi).and _).and _) Dx = _
          rw [Io.and_assoc]
          exact Io.and_ok HRR.out
        clear HIO HDC HRR
        go_wp2_with fail
        refine HRD.out.mono ?_
        intro e w2 hs'
        obtain ⟨v, rfl, hm2⟩ := hs'.ok rfl
        unfold bytesB at hm2
        obtain ⟨a2, c2, rfl, hm3⟩ := Mem.rowB.1 hm2
        dsimp only
        have HZ := hid (zero_any w2 _ _ _ bs hm3.row_sl)
        have HM2 := hid hm3.right
        obtain ⟨q0, q1⟩ := HBX.out _ _ hm3.right.right
        clear hm2 hm3 hs' HRD
        cases hz : allZero bs with
        | true =>
          rw [hz] at HZ HBE
          clear hz
          go_wp2_with (go_at_call 47; refine HZ.out.mono ?_; rintro e w' ⟨rfl, rfl⟩; dsimp only)
          go_roundw
          case rel => exact ⟨k + 1, s, Dx, by omega, by go_num, rfl, by omega, HBE.out, HM2.out⟩
          case measure => simp [intOf] <;> omega
        | false =>
          rw [hz] at HZ HBE
          clear hz
          have HW : Hid (∀ w R' g2, Mem wb w (devAt T8 g Dx * R') → Sl w (some ⟨g2, 0, none⟩) 512 512 (byts sect0) → Calls Try.prog 43 #[.agg #[.pointer (some ⟨g, 0, none⟩), .int .i64 p], .int .i64 (xi : Int), .slice (some ⟨g2, 0, none⟩) 512 512] w (IoSays wb g R' (ioWrite xi sect0 Dx) unitB)) := by
            show ∀ w R' g2, _
            intro w R' g2 hm hsl
            exact dwrite_any wb w R' g Dx hm (by omega) xi (by omega) p _ 512 512 _ hsl
          have HG := hid (Io.Grows.write xi sect0 Dx)
          obtain ⟨r2, HR2⟩ : ∃ r, Hid (ioWrite xi sect0 Dx = r) := ⟨_, hid rfl⟩
          rw [HR2.out] at HW HG
          have HM := HM2
          clear HM2
          go_wp2_with (go_at_call 47; refine HZ.out.mono ?_; rintro e w' ⟨rfl, rfl⟩; dsimp only)
          rcases r2 with ⟨e2 | u2, D2⟩
          · have HBE : Hid (ioWiped l D = (.error e2, D2)) := by
              show _ = _
              rw [HBE.out]
              show (((ioWrite xi sect0).and _).and _) Dx = _
              rw [Io.and_assoc]
              exact Io.and_error HR2.out
            clear HR2 HG q0 q1 HZ
            refine region_mem (by kernel_rfl) (V := fun jv x => match jv with | 0 => x = (.agg #[.pointer (some ⟨g, 0, none⟩), .int .i64 p] : Value) | 1 => x = (.int .i64 (xi : Int) : Value) | 2 => ∃ g2, x = (.slice (some ⟨g2, 0, none⟩) 512 512 : Value) | 3 => False | _ => True) (A := (fun L => (if L 3 then devAt T8 g D2 else devAt T8 g Dx) * (pts w0.heap.size 54 [.pointer (some ⟨g, 0, none⟩), .int .i64 p] * R))) (Bs := [(2, none, blkB 5 512 (byts sect0))]) HM.out (fun L L' h => by show (if L 3 then _ else _) * _ = (if L' 3 then _ else _) * _; rw [h 3 (by decide)]) (show ([2] : List Nat).Nodup by decide) (by kernel_rfl) (by kernel_rfl) ?_ ?_
            · refine ⟨?_, ?_, ?_, ?_, trivial⟩
              · refine Fine2.run trivial _ rfl (fun _ => rfl) rfl rfl (fun L a w R' hw hm hmk hf => ?_)
                have e2 : a.eval (.tmp 2) = (.pointer (some ⟨w0.heap.size, 0, none⟩) : Value) := (hf 2 (by decide +kernel)).old (by kernel_rfl)
                simp only [Act.eval, Array.getD_eq_getD_getElem?] at e2
                have hbx := hm.left.right
                have q0 := hbx.cell 0
                have q1 := hbx.cell 1
                simp only [List.getElem?_cons_zero, List.getElem?_cons_succ] at q0 q1
                simp [execOp, resolve, invoke, builtin, go_sem, e2, q0, q1]
              · refine Fine2.run trivial _ rfl (fun _ => rfl) rfl rfl (fun L a w R' hw hm hmk hf => ?_)
                have e6 : a.eval (.tmp 6) = (.int .i64 (xi : Int) : Value) := (hf 6 (by decide +kernel)).old (by kernel_rfl)
                simp only [Act.eval, Array.getD_eq_getD_getElem?] at e6
                simp [execOp, resolve, invoke, builtin, go_sem, e6]
              · refine Fine2.open trivial (fun L a w R' hL hw hm hmk hf => ?_)
                rw [eaten_none rfl, emp_sep] at hm
                skip
                refine ⟨.slice (some ⟨w.heap.size, 0, none⟩) 512 512, w.alloc (.cells (byts sect0).toArray 5), ?_, ⟨_, rfl⟩, ?_⟩
                · simp [execOp, resolve, invoke, builtin, go_sem, HMK.out]
                · exact (Mem.blkB.2 ⟨_, rfl, hm.alloc (byts sect0) 5⟩ : Mem wb _ (blkB 5 512 (byts sect0) _ * _)).p1
              · refine .inl ⟨trivial, fun L a w Kq Rq hL hw hm hmk hf hdf hcl hK => ?_⟩
                rw [eaten_none rfl, emp_sep] at hm
                obtain ⟨R3, hR3⟩ := hmk [true] (by kernel_rfl)
                have hm : Mem wb w ((if L 3 then devAt T8 g D2 else devAt T8 g Dx) * (pts w0.heap.size 54 [.pointer (some ⟨g, 0, none⟩), .int .i64 p] * R) * Rq) := hm
                rw [hL] at hm
                have hm : Mem wb w (devAt T8 g Dx * (pts w0.heap.size 54 [.pointer (some ⟨g, 0, none⟩), .int .i64 p] * R) * Rq) := hm
                have hm' := hm
                rw [hR3] at hm'
                obtain ⟨g2, y, m1⟩ := Mem.blkB.1 (show Mem wb w (_ * (_ * R3)) from hm').p1
                have e20 : a.eval (.tmp 20) = .slice (some ⟨g2, 0, none⟩) 512 512 := y
                have e18 : a.eval (.tmp 18) = (.agg #[.pointer (some ⟨g, 0, none⟩), .int .i64 p] : Value) := (hf 18 (by decide +kernel)).new 0 (by kernel_rfl) (by kernel_rfl)
                have e19 : a.eval (.tmp 19) = .int .i64 (xi : Int) := (hf 19 (by decide +kernel)).new 1 (by kernel_rfl) (by kernel_rfl)
                simp only [Act.eval, Array.getD_eq_getD_getElem?] at e18 e19 e20
                unfold Oper.wp
                rw [show (execOp a.eval _).run Try.prog w = .ok (.enter 43 #[(.agg #[.pointer (some ⟨g, 0, none⟩), .int .i64 p]), .int .i64 (xi : Int), .slice (some ⟨g2, 0, none⟩) 512 512]) w from by simp [execOp, resolve, invoke, go_sem, e18, e19, e20]]
                refine (HW.out w (pts w0.heap.size 54 [.pointer (some ⟨g, 0, none⟩), .int .i64 p] * R * Rq) g2 (hm.eq (by ac_rfl)) (m1.blk.1.sl_all 512 (by rw [byts_length]; exact zrs_length 512) (by omega))).mono ?_
                intro e w' hs'
                obtain ⟨rfl, hc, hm2⟩ := hs'.error rfl
                exact ⟨hdf, IoSays.mkError HBE.out hc (hm2.eq (by ac_rfl) : Mem wb w' (pts w0.heap.size 54 [.pointer (some ⟨g, 0, none⟩), .int .i64 p] * Rq * (devAt T8 g D2 * R))).right⟩
            · intro u w9 hu hm9
              exact absurd (hu 21 3 rfl) (fun h => h)
          · have HBE : Hid (ioWiped l D = ((ioWipe true (l.drop (k + 1))).and fun s => if s then ioFlush else Io.ret ()) D2) := by
              show _ = _
              rw [HBE.out]
              show (((ioWrite xi sect0).and _).and _) Dx = _
              rw [Io.and_assoc]
              exact Io.and_ok HR2.out
            have HPD : Hid (D2.pend.length ≤ D.pend.length + (k + 1)) := by show _ ≤ _; have h2 : D2.pend.length ≤ Dx.pend.length + 1 := HG.out; omega
            clear HR2 HG q0 q1 HZ
            refine region_mem (by kernel_rfl) (V := fun jv x => match jv with | 0 => x = (.agg #[.pointer (some ⟨g, 0, none⟩), .int .i64 p] : Value) | 1 => x = (.int .i64 (xi : Int) : Value) | 2 => ∃ g2, x = (.slice (some ⟨g2, 0, none⟩) 512 512 : Value) | 3 => x = (.tuple #[] : Value) | _ => True) (A := (fun L => (if L 3 then devAt T8 g D2 else devAt T8 g Dx) * (pts w0.heap.size 54 [.pointer (some ⟨g, 0, none⟩), .int .i64 p] * R))) (Bs := [(2, none, blkB 5 512 (byts sect0))]) HM.out (fun L L' h => by show (if L 3 then _ else _) * _ = (if L' 3 then _ else _) * _; rw [h 3 (by decide)]) (show ([2] : List Nat).Nodup by decide) (by kernel_rfl) (by kernel_rfl) ?_ ?_
            · refine ⟨?_, ?_, ?_, ?_, trivial⟩
              · refine Fine2.run trivial _ rfl (fun _ => rfl) rfl rfl (fun L a w R' hw hm hmk hf => ?_)
                have e2 : a.eval (.tmp 2) = (.pointer (some ⟨w0.heap.size, 0, none⟩) : Value) := (hf 2 (by decide +kernel)).old (by kernel_rfl)
                simp only [Act.eval, Array.getD_eq_getD_getElem?] at e2
                have hbx := hm.left.right
                have q0 := hbx.cell 0
                have q1 := hbx.cell 1
                simp only [List.getElem?_cons_zero, List.getElem?_cons_succ] at q0 q1
                simp [execOp, resolve, invoke, builtin, go_sem, e2, q0, q1]
              · refine Fine2.run trivial _ rfl (fun _ => rfl) rfl rfl (fun L a w R' hw hm hmk hf => ?_)
                have e6 : a.eval (.tmp 6) = (.int .i64 (xi : Int) : Value) := (hf 6 (by decide +kernel)).old (by kernel_rfl)
                simp only [Act.eval, Array.getD_eq_getD_getElem?] at e6
                simp [execOp, resolve, invoke, builtin, go_sem, e6]
              · refine Fine2.open trivial (fun L a w R' hL hw hm hmk hf => ?_)
                rw [eaten_none rfl, emp_sep] at hm
                skip
                refine ⟨.slice (some ⟨w.heap.size, 0, none⟩) 512 512, w.alloc (.cells (byts sect0).toArray 5), ?_, ⟨_, rfl⟩, ?_⟩
                · simp [execOp, resolve, invoke, builtin, go_sem, HMK.out]
                · exact (Mem.blkB.2 ⟨_, rfl, hm.alloc (byts sect0) 5⟩ : Mem wb _ (blkB 5 512 (byts sect0) _ * _)).p1
              · refine .inl ⟨trivial, fun L a w Kq Rq hL hw hm hmk hf hdf hcl hK => ?_⟩
                rw [eaten_none rfl, emp_sep] at hm
                obtain ⟨R3, hR3⟩ := hmk [true] (by kernel_rfl)
                have hm : Mem wb w ((if L 3 then devAt T8 g D2 else devAt T8 g Dx) * (pts w0.heap.size 54 [.pointer (some ⟨g, 0, none⟩), .int .i64 p] * R) * Rq) := hm
                rw [hL] at hm
                have hm : Mem wb w (devAt T8 g Dx * (pts w0.heap.size 54 [.pointer (some ⟨g, 0, none⟩), .int .i64 p] * R) * Rq) := hm
                have hm' := hm
                rw [hR3] at hm'
                obtain ⟨g2, y, m1⟩ := Mem.blkB.1 (show Mem wb w (_ * (_ * R3)) from hm').p1
                have e20 : a.eval (.tmp 20) = .slice (some ⟨g2, 0, none⟩) 512 512 := y
                have e18 : a.eval (.tmp 18) = (.agg #[.pointer (some ⟨g, 0, none⟩), .int .i64 p] : Value) := (hf 18 (by decide +kernel)).new 0 (by kernel_rfl) (by kernel_rfl)
                have e19 : a.eval (.tmp 19) = .int .i64 (xi : Int) := (hf 19 (by decide +kernel)).new 1 (by kernel_rfl) (by kernel_rfl)
                simp only [Act.eval, Array.getD_eq_getD_getElem?] at e18 e19 e20
                unfold Oper.wp
                rw [show (execOp a.eval _).run Try.prog w = .ok (.enter 43 #[(.agg #[.pointer (some ⟨g, 0, none⟩), .int .i64 p]), .int .i64 (xi : Int), .slice (some ⟨g2, 0, none⟩) 512 512]) w from by simp [execOp, resolve, invoke, go_sem, e18, e19, e20]]
                refine (HW.out w (pts w0.heap.size 54 [.pointer (some ⟨g, 0, none⟩), .int .i64 p] * R * Rq) g2 (hm.eq (by ac_rfl)) (m1.blk.1.sl_all 512 (by rw [byts_length]; exact zrs_length 512) (by omega))).mono ?_
                intro e w' hs'
                obtain ⟨rfl, hm2⟩ := hs'.unit rfl
                refine hK _ _ rfl ?_
                show Mem wb w' ((if doneSet L 3 3 then devAt T8 g D2 else devAt T8 g Dx) * (pts w0.heap.size 54 [.pointer (some ⟨g, 0, none⟩), .int .i64 p] * R) * (emp * Rq))
                rw [show doneSet L 3 3 = true from rfl, emp_sep]
                exact hm2.eq (by show _ = devAt T8 g D2 * (pts w0.heap.size 54 [.pointer (some ⟨g, 0, none⟩), .int .i64 p] * R) * Rq; ac_rfl)
            · intro u w9 hu hm9
              have HM9 := hid (hm9.left : Mem wb w9 (devAt T8 g D2 * (pts w0.heap.size 54 [.pointer (some ⟨g, 0, none⟩), .int .i64 p] * R)))
              simp only [putAll]
              clear hm9 hu HW HM
              go_simp
              go_wp2_with fail
              go_roundw
              case rel => exact ⟨k + 1, true, D2, by omega, by go_num, rfl, by have := HPD.out; omega, HBE.out, HM9.out⟩
              case measure => simp [intOf] <;> omega
    · obtain rfl : k = n := by omega
      have HBE : Hid (ioWiped l D = (if s then ioFlush else Io.ret ()) D1) := by
        show _ = _
        rw [HIO.out, List.drop_of_length_le (by rw [HL.out]; omega)]
        rfl
      obtain ⟨q0, q1⟩ := HBX.out _ _ HM.out.right
      have HM2 := hid HM.out.p1.right
      clear HIO
      cases s with
      | false =>
        clear HM q0 q1
        go_wp2_with fail
        go_end0
        exact IoSays.mkUnit HBE.out HM2.out
      | true =>
        have HF := hid (dflush_any wb wr _ g D1 HM.out (by omega) p)
        obtain ⟨r2, HR2⟩ : ∃ r, Hid (ioFlush D1 = r) := ⟨_, hid rfl⟩
        have HBE : Hid (ioWiped l D = r2) := hid (HBE.out.trans HR2.out)
        rw [HR2.out] at HF
        clear HM HR2 HM2
        go_wp2_with fail
        refine HF.out.mono ?_
        intro e w3 hs
        rcases r2 with ⟨e2 | u2, D2⟩
        · obtain ⟨rfl, hc, hm⟩ := hs.error rfl
          dsimp only
          exact ⟨rfl, IoSays.mkError HBE.out hc hm.p1.right⟩
        · obtain ⟨rfl, hm⟩ := hs.unit rfl
          dsimp only
          have HM3 := hid hm.p1.right
          clear hm hs
          go_wp2_with fail
          go_end0
          exact IoSays.mkUnit HBE.out HM3.out
end Go.Proofs.Ytpaebopmppbjbaa
