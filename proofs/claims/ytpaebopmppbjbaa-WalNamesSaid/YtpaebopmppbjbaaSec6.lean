/- The walk of Flush (package sectors). -/
import Derived.Test.YtpaebopmppbjbaaSec5
set_option linter.unusedVariables false
set_option linter.unusedSimpArgs false
namespace Go.Le
open Go Go.RowKit
theorem flushed_take (img : List UInt8) (pend : List (Nat × List UInt8)) (k : Nat) (p : Nat × List UInt8) (h : pend[k]? = some p) : flushed img (pend.take (k + 1)) = put (flushed img (pend.take k)) p 512 := by
  obtain ⟨h1, h2⟩ := List.getElem?_eq_some_iff.1 h
  rw [List.take_succ_eq_append_getElem h1, h2]
  simp [flushed]
theorem flushed_length : ∀ (pend : List (Nat × List UInt8)) (img : List UInt8), (∀ p ∈ pend, p.1 * 512 + 512 ≤ img.length ∧ p.2.length = 512) → (flushed img pend).length = img.length
  | [], _, _ => rfl
  | p :: r, img, h => by
    have h1 := h p (by simp)
    have h2 := put_length img p 512 h1.1 h1.2
    show (flushed (put img p 512) r).length = _
    rw [flushed_length r _ (fun q hq => by rw [h2]; exact h q (by simp [hq])), h2]
theorem flushed_ok {D : Dev} (h : D.ok) : ({ D.count with img := flushed D.img D.pend, pend := [] } : Dev).ok := by
  have e := flushed_length D.pend D.img h.pend
  have hc := Dev.count_ok h
  obtain ⟨n, h1, h2⟩ := h.img
  exact ⟨⟨n, by rw [e]; exact h1, h2⟩, by simp, hc.armed, h.torn, h.off, h.keep, hc.calls⟩
end Go.Le
namespace Go.Proofs.Ytpaebopmppbjbaa
open Go Go.RowKit Go.Le

set_option maxRecDepth 20000 in
set_option maxHeartbeats 1000000 in
theorem Flush_any (wb w : World) (R : HP) (g : Nat) (D : Dev) (h : Mem wb w (devAt T8 g D * R)) (hpl : D.pend.length ≤ 1000000000) :
    Calls Try.prog 41 #[.pointer (some ⟨g, 0, none⟩)] w fun e w' => e = .returned (.int .i64 D.flush.2) ∧ Mem wb w' (devAt T8 g D.flush.1 * R) := by
  have HH := hid h
  obtain ⟨hok, ka, kc, h1⟩ := Mem.devAt.1 h
  have HCR := hid (crashes_any wb w _ g D ka _ kc h1 hok)
  have HC : Hid (D.flush = if D.down then (D, 80) else if D.fires then (D.count.fall D.loss, 80) else ({ D.count with img := flushed D.img D.pend, pend := [] }, 0)) := rfl
  obtain ⟨ia, ic, pa, pc, hm⟩ := Mem.dev0.1 h1
  obtain ⟨-, -, c2, -⟩ := dev_cells hm
  have HOK := hid hok
  clear h h1 hok hm
  generalize D.flush = q at *
  cases hd : D.down
  all_goals
    rw [hd] at c2 HC
    have HD := hid hd
    clear hd
  · simp only [Bool.false_eq_true, if_false] at HC
    go_enter Try.func41, Try.ntmps41
    go_wp2_with fail
    refine HCR.out.mono ?_
    rintro e w4 ⟨rfl, hm8⟩
    dsimp only
    have HM8 := hid hm8
    clear c2
    obtain ⟨ia2, ic2, pa2, pc2, hd2⟩ := Mem.dev0.1 hm8
    clear hm8
    have hcl : D.count.loss = D.loss := rfl
    generalize hfi : D.fires = fi at *
    cases fi
    · simp only [Bool.false_eq_true, if_false] at HC
      obtain rfl := HC.out
      clear hfi
      obtain ⟨zs, hz, hm⟩ := Mem.pends.1 hd2.p2
      obtain ⟨ni, hni, hn1, hn2⟩ := HOK.out.img
      have hil : D.img.length ≤ 2097152 := by omega
      have hzl : zs.length = D.pend.length := by have := congrArg List.length hz; rw [List.length_map] at this; exact this
      obtain ⟨gi, -, rfl, -, i1, i2, -⟩ := hm.p3.row_at (by show 0 < D.img.length; omega)
      replace i1 : D.img.length ≤ ic2 := i1
      have c1 := (dev_cells hm.p2).2.1
      have HM := hid hm
      have HZ := hid hz
      have HZL := hid hzl
      clear hd2 hm hz hzl hni
      have hpe : D.count.pend = D.pend := rfl
      have hie : D.count.img = D.img := rfl
      rw [hpe] at c1 HZ HM
      rw [hie] at HM
      clear hpe hie hcl
      generalize hnl : D.pend.length = n at *
      have HN := hid hnl
      clear hnl
      go_wp2_with fail
      go_loopw [22] (fun i wr => ∃ (k : Nat), k ≤ n ∧ i = .int .i64 k ∧
        Mem wb wr (row T8.pe 2 pa2 n pc2 (pzCells zs) * (all (zs.map (pzRow T8.u8)) * (pts g T8.dv (devCells D.count (some ⟨gi, 0, none⟩) ic2 pa2 pc2 ka D.loss.keep.length kc) * (row T8.u8 1 (some ⟨gi, 0, none⟩) (flushed D.img (D.pend.take k)).length ic2 (byts (flushed D.img (D.pend.take k))) * (keepAt T8 (ka, kc) D.loss * R)))))) (fun i _ => n - (intOf i).toNat)
      case atStart => exact ⟨0, by omega, rfl, by have := HM.out; simpa [flushed] using this⟩
      case round =>
        obtain ⟨k, hk, rfl, hm⟩ := hrel
        have hi : (flushed D.img (D.pend.take k)).length = D.img.length := flushed_length _ _ fun p hp => HOK.out.pend p (List.mem_of_mem_take hp)
        obtain ⟨img, himg⟩ : ∃ img, img = flushed D.img (D.pend.take k) := ⟨_, rfl⟩
        rw [← himg] at hm hi
        have HI := hid hi
        have HG := hid himg
        clear hi himg
        by_cases hlt : k < n
        · obtain ⟨gp, rest, rfl, r1, r2, r3, r4, hmp⟩ := hm.row_at (by omega)
          obtain ⟨z, hz⟩ : ∃ z, zs[k]? = some z := ⟨zs[k]'(by rw [HZL.out]; exact hlt), List.getElem?_eq_getElem _⟩
          have hpk := pz_cells zs k z hz
          have hp0 := hmp.cell (k * 2)
          have hp1 := hmp.cell (k * 2 + 1)
          rw [List.getElem?_append_left (by rw [r1]; omega)] at hp0 hp1
          rw [hpk.1] at hp0
          rw [hpk.2] at hp1
          have HZK := hid hz
          have hpz : D.pend[k]? = some z.1 := by rw [← HZ.out, List.getElem?_map, hz]; rfl
          have hzo := HOK.out.pend z.1 (List.mem_of_getElem? hpz)
          have HPZ := hid hpz
          obtain ⟨zs1, zs2⟩ := hzo
          have ZL := hid zs2
          rw [zs2] at hp1
          obtain ⟨⟨si, bs⟩, ba, bc⟩ := z
          simp only at hp0 hp1 zs1 zs2
          have HM1 := hid (hm.alloc [.int .i64 (si : Int), .slice ba 512 bc] 85)
          clear hpk hz hpz hmp hm r1 r4 zs2
          obtain ⟨rest2, -, -, j1, -, -, j4, hmi⟩ := Mem.row_some.1 HM1.out.p4
          obtain ⟨Az, hmz⟩ := Mem.pz HM1.out.p2 HZK.out
          have hsz := hmz.row_sl
          simp only at hsz
          rw [ZL.out] at hsz
          have hfit9 : Hid (si * 512 + 512 ≤ (byts img ++ rest2).length) := by
            show _ ≤ _
            have hi9 := HI.out
            simp only [List.length_append, byts_length]
            omega
          have HSZ := hid hsz
          have J1 := hid j4
          have HMI := hid hmi
          clear hsz hmz hmi j1 j4
          go_wp2_with fail
          have b0 := HM1.out.cell 0
          have b1 := HM1.out.cell 1
          simp only [List.getElem?_cons_zero, List.getElem?_cons_succ] at b0 b1
          generalize (wr.alloc (Obj.cells #[Value.int IntKind.i64 (si : Int), .slice ba 512 bc] 85)) = w2 at *
          go_region_law (first | ((with_reducible show (if Region.wanted (Oper.mk (some 32) _ _ _ _ _) _ = true then _ else _)); refine step_copy (by rfl) (.tmp 29) (.tmp 31) 37 37 (by rfl) Try.underlying37 u8size (by rfl) (by rfl) HMI.out.drew (by rfl) (si * 512) 512 (by rfl) (fun _ => rfl) hfit9.out HSZ.out.drew (byts_oneCell _) ?_; intro w4 hm4) | (go_simp; go_at_call 61; refine (sector_any wb _ _ g D.count gi (some ⟨gp, 0, none⟩) ka ic2 pc2 _ kc (by first | exact HM1.out.p3 | exact HM1.out.p3.drew) hil i1 i2 si (by exact zs1)).mono ?_; rintro e w3 ⟨rfl, rfl⟩))
          all_goals
            have hm5 := Mem.img_back (img' := put img (si, bs) 512) hm4 (by rw [HI.out]; exact zs1) (by rw [show bs.length = 512 from ZL.out]; exact Nat.le_refl _) (by rw [HI.out]; exact i1) i2 J1.out rfl
            have HM5 := hid hm5
            clear hm4 hm5
            go_wp2_with fail
            go_roundw
            case rel => exact ⟨k + 1, by omega, by go_num, by rw [flushed_take _ _ _ _ HPZ.out, ← HG.out]; exact HM5.out.p1.right.q3⟩
            case measure => simp [intOf] <;> omega
        · obtain rfl : k = n := by omega
          have hd := hm.p2
          obtain ⟨e0, e1, e2, e3, e4, e5, e6, e7⟩ := dev_cells hd
          obtain ⟨f0, f1, f2, f3, f4, f5, f6, f7⟩ := dev_free hd
          have HD := hid hd
          clear hd hm
          go_wp2_with fail
          go_ret
          have hq := HD.out.setCell 1 (.slice none 0 0)
          rw [List.take_of_length_le (by rw [HN.out]; exact Nat.le_refl _)] at HG
          rw [HG.out] at hq HI
          refine ⟨rfl, Mem.devAt.2 ⟨flushed_ok HOK.out, ka, kc, Mem.dev0.2 ⟨some ⟨gi, 0, none⟩, ic2, none, 0, ?_⟩⟩⟩
          have hq2 := (Mem.pends_nil (u := T8.u8) (pt := T8.pe) hq.p1.right.p1.right).q2
          refine hq2.eq ?_
          simp [devCells, HI.out, Dev.count]
    · simp only [if_true] at HC
      obtain rfl := HC.out
      clear hfi
      obtain ⟨-, -, -, -, x4, x5, x6, -⟩ := dev_cells hd2
      rw [hcl] at x5 x6
      clear hd2 hcl
      go_wp2_with fail
      refine (fall_any wb w4 (keepAt T8 (ka, kc) D.loss * R) g D.count ka _ kc HM8.out (Dev.count_ok HOK.out) (by show D.pend.length ≤ _; omega) D.loss ka kc (fun w' hw => hw.row_sl) HOK.out.keep HOK.out.torn HOK.out.off).mono ?_
      rintro e w5 ⟨rfl, hm9⟩
      dsimp only
      go_wp2_with fail
      go_ret
      exact ⟨rfl, Mem.devAt.2 ⟨Dev.fall_ok (Dev.count_ok HOK.out) _, ka, kc, hm9⟩⟩
  · simp only [if_true] at HC
    obtain rfl := HC.out
    go_enter Try.func41, Try.ntmps41
    go_wp2_with fail
    go_ret
    exact ⟨rfl, HH.out⟩
end Go.Proofs.Ytpaebopmppbjbaa
