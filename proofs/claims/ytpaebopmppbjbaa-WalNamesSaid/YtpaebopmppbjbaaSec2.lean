/- The walk of a crash (package sectors). -/
import Derived.Test.YtpaebopmppbjbaaSec1
set_option linter.unusedVariables false
set_option linter.unusedSimpArgs false
namespace Go.Le
open Go Go.RowKit
theorem pz_cells (zs : List Pz) (k : Nat) (z : Pz) (h : zs[k]? = some z) : (pzCells zs)[k * 2]? = some (.int .i64 (z.1.1 : Int)) ∧ (pzCells zs)[k * 2 + 1]? = some (.slice z.2.1 z.1.2.length z.2.2) := flat2 _ _ zs k z h
theorem put_length (img : List UInt8) (p : Nat × List UInt8) (n : Nat) (h : p.1 * 512 + 512 ≤ img.length) (hp : p.2.length = 512) : (put img p n).length = img.length := splice_length _ _ _ (by rw [List.length_take]; omega)
theorem fall_drop (l : Loss) (pend : List (Nat × List UInt8)) (k : Nat) (p : Nat × List UInt8) (h : pend[k]? = some p) (img : List UInt8) : fallFrom l k img (pend.drop k) = fallFrom l (k + 1) (put img p (remains l k)) (pend.drop (k + 1)) := by
  have hk := (List.getElem?_eq_some_iff.1 h)
  obtain ⟨h1, h2⟩ := hk
  rw [List.drop_eq_getElem_cons h1, h2]
  rfl
end Go.Le
namespace Go.Proofs.Ytpaebopmppbjbaa
open Go Go.RowKit Go.Le

set_option maxRecDepth 20000 in
set_option maxHeartbeats 1000000 in
theorem fall_any (wb w : World) (R : HP) (g : Nat) (D : Dev) (ka : Option Addr) (kn kc : Nat) (h : Mem wb w (dev0 T8 g D ka kn kc * R)) (hok : D.ok) (hpl : D.pend.length ≤ 4294967296)
    (l : Loss) (la : Option Addr) (lc : Nat) (hs : ∀ w', Mem wb w' R → Sl w' la l.keep.length lc (u64s l.keep)) (hb : ∀ x ∈ l.keep, x < 18446744073709551616) (ht : -9223372036854775808 ≤ l.torn ∧ l.torn ≤ 9223372036854775807) (ho : -9223372036854775808 ≤ l.off ∧ l.off ≤ 9223372036854775807) :
    Calls Try.prog 60 #[.pointer (some ⟨g, 0, none⟩), .agg #[.slice la l.keep.length lc, .int .i64 l.torn, .int .i64 l.off]] w fun e w' => e = .returned (.tuple #[]) ∧ Mem wb w' (dev0 T8 g (D.fall l) ka kn kc * R) := by
  obtain ⟨ia, ic, pa, pc, hm⟩ := Mem.dev0.1 h
  obtain ⟨zs, hz, hm⟩ := Mem.pends.1 hm.p2
  obtain ⟨ni, hni, hn1, hn2⟩ := hok.img
  have hil : D.img.length ≤ 2097152 := by omega
  have hzl : zs.length = D.pend.length := by rw [← hz]; simp
  obtain ⟨gi, -, rfl, -, i1, i2, -⟩ := hm.p3.row_at (by omega)
  -- the loss, boxed
  have hm1 := hm.alloc [.slice la l.keep.length lc, .int .i64 l.torn, .int .i64 l.off] 81
  have c1 := (dev_cells hm1.p3).2.1
  clear h hm
  have HZ := hid hz
  have HZL := hid hzl
  have HOK := hid hok
  have HS := hid hs
  have HB := hid hb
  have H1 := hid hm1
  clear hz hzl hok hs hb hm1 hni
  generalize hnl : D.pend.length = n at *
  have HN := hid hnl
  clear hnl
  go_enter Try.func60, Try.ntmps60
  go_wp2
  go_loopw [12] (fun i wr => ∃ (k : Nat) (img : List UInt8), k ≤ n ∧ i = .int .i64 k ∧ img.length = D.img.length ∧ fallFrom l k img (D.pend.drop k) = fallFrom l 0 D.img D.pend ∧
    Mem wb wr (pts w.heap.size 81 [.slice la l.keep.length lc, .int .i64 l.torn, .int .i64 l.off] * (row T8.pe 2 pa n pc (pzCells zs) * (all (zs.map (pzRow T8.u8)) * (pts g T8.dv (devCells D (some ⟨gi, 0, none⟩) ic pa pc ka kn kc) * (row T8.u8 1 (some ⟨gi, 0, none⟩) img.length ic (byts img) * R)))))) (fun i _ => n - (intOf i).toNat)
  case atStart => exact ⟨0, D.img, by omega, rfl, rfl, rfl, by have := H1.out; exact this⟩
  case round =>
    obtain ⟨k, img, hk, rfl, hi, hf, hm⟩ := hrel
    have HI := hid hi
    have HF := hid hf
    clear hi hf
    by_cases hlt : k < n
    · obtain ⟨gp, rest, rfl, r1, r2, r3, r4, hmp⟩ := hm.p1.row_at (by omega)
      obtain ⟨z, hz⟩ : ∃ z, zs[k]? = some z := ⟨zs[k]'(by rw [HZL.out]; exact hlt), List.getElem?_eq_getElem _⟩
      have hpk := pz_cells zs k z hz
      have hp0 := hmp.cell (k * 2)
      have hp1 := hmp.cell (k * 2 + 1)
      rw [List.getElem?_append_left (by rw [r1]; omega)] at hp0 hp1
      rw [hpk.1] at hp0
      rw [hpk.2] at hp1
      have HZK := hid hz
      have hpz : D.pend[k]? = some z.1 := by rw [← HZ.out, List.getElem?_map, hz]; rfl
      have hzo := HOK.out.pend z.1 (List.mem_of_getElem? hpz)
      have HPZ := hid hpz
      obtain ⟨zs1, zs2⟩ := hzo
      have ZL := hid zs2
      rw [zs2] at hp1
      have HMP := hid hmp
      have HM := hid hm
      obtain ⟨⟨si, bs⟩, ba, bc⟩ := z
      simp only at hp0 hp1 zs1 zs2
      have b0 : ∀ o : Obj, (wr.alloc o).cell? _ = _ := fun o => (HM.out.alloc' o).cell 0
      have b1 : ∀ o : Obj, (wr.alloc o).cell? _ = _ := fun o => (HM.out.alloc' o).cell 1
      have b2 : ∀ o : Obj, (wr.alloc o).cell? _ = _ := fun o => (HM.out.alloc' o).cell 2
      simp only [List.getElem?_cons_zero, List.getElem?_cons_succ] at b0 b1 b2
      clear hpk hz hpz hmp hm r1 r4 zs2
      have hM1 := HM.out.alloc [.int .i64 (si : Int), .slice ba 512 bc] T8.pe
      have HM1 := hid hM1
      clear hM1
      go_wp2_with fail
      refine (keeps_any _ l la lc (HS.out _ HM1.out.right.right.right.right.right.right) HB.out k (by omega)).mono ?_
      rintro e w2 ⟨rfl, hf2⟩
      have hM2 := HM1.out.fr hf2
      have HM2 := hid hM2
      clear hM2 HM1 b0 b1 b2 hf2
      have b0 := HM2.out.cell 0
      have b1 := HM2.out.cell 1
      have d1 := HM2.out.p1.cell 1
      have d2 := HM2.out.p1.cell 2
      simp only [List.getElem?_cons_zero, List.getElem?_cons_succ] at b0 b1 d1 d2
      obtain ⟨rest2, -, -, j1, -, -, j4, hmi⟩ := Mem.row_some.1 HM2.out.p5
      obtain ⟨Az, hmz⟩ := Mem.pz HM2.out.p3 HZK.out
      have hsz := hmz.row_sl
      simp only at hsz
      rw [ZL.out] at hsz
      have HSZ := hid hsz
      have zle := hsz.le
      have zlei : (512 : Int) ≤ (bc : Int) := by omega
      have zcp := hsz.cap
      have HMI := hid hmi
      have J1 := hid j4
      clear hsz hmz hmi j1 j4
      by_cases hkp : kept l k = true
      · have HL : Hid (remains l k = 512) := by show _ = _; simp [remains, hkp]
        go_wp2_with fail
        have HT9 := hid (HSZ.out.take (512) (by omega)).drew
        have hfit9 : Hid (si * 512 + (512) ≤ (byts img ++ rest2).length) := by
          show _ ≤ _
          have hi9 := HI.out
          simp only [List.length_append, byts_length]
          omega
        go_region_law (first | ((with_reducible show (if Region.wanted (Oper.mk (some 38) _ _ _ _ _) _ = true then _ else _)); refine step_copy (by rfl) (.tmp 33) (.tmp 37) 37 37 (by rfl) Try.underlying37 u8size (by rfl) (by rfl) HMI.out.drew (by rfl) (si * 512) (512) (by show _ = min _ _; omega) (fun h9 => by first | exact absurd h9 (by decide) | rfl) hfit9.out HT9.out (fun u hu => byts_oneCell _ u (List.mem_of_mem_take hu)) ?_; intro w4 hm4) | (go_simp; go_at_call 61; refine (sector_any wb _ _ g D gi (some ⟨gp, 0, none⟩) ka ic pc kn kc (by first | exact HM2.out.p4 | exact HM2.out.p4.drew) hil i1 i2 si (by omega)).mono ?_; rintro e w3 ⟨rfl, rfl⟩))
        all_goals
          rw [List.take_take, Nat.min_self] at hm4
          have hm5 := Mem.img_back (img' := put img (si, bs) (remains l k)) hm4 (by rw [HI.out]; omega) (by rw [show bs.length = 512 from ZL.out]; omega) (by rw [HI.out]; exact i1) i2 J1.out (by rw [HL.out]; rfl)
          have HM5 := hid hm5
          clear hm4 hm5
          go_wp2_with fail
          go_roundw
          case rel => exact ⟨k + 1, put img (si, bs) (remains l k), by omega, by go_num, by rw [put_length _ _ _ (by rw [HI.out]; exact zs1) ZL.out]; exact HI.out, by rw [← fall_drop l D.pend k _ HPZ.out img]; exact HF.out, HM5.out.p1.right.q4⟩
          case measure => simp [intOf] <;> omega
      · have hkf : kept l k = false := by simpa using hkp
        clear hkp
        by_cases htn : (k : Int) = l.torn
        · have HL : Hid (remains l k = (min (max l.off 0) 512).toNat) := by show _ = _; simp [remains, hkf, htn]
          have htb : ((k : Int) == l.torn) = true := by simpa using htn
          clear htn
          by_cases o1 : l.off < 0
          · replace HL : Hid (remains l k = 0) := by show _ = _; rw [HL.out]; omega
            go_wp2_with fail
            have HT9 := hid (HSZ.out.take (0) (by omega)).drew
            have hfit9 : Hid (si * 512 + (0) ≤ (byts img ++ rest2).length) := by
              show _ ≤ _
              have hi9 := HI.out
              simp only [List.length_append, byts_length]
              omega
            go_region_law (first | ((with_reducible show (if Region.wanted (Oper.mk (some 38) _ _ _ _ _) _ = true then _ else _)); refine step_copy (by rfl) (.tmp 33) (.tmp 37) 37 37 (by rfl) Try.underlying37 u8size (by rfl) (by rfl) HMI.out.drew (by rfl) (si * 512) (0) (by show _ = min _ _; omega) (fun h9 => by first | exact absurd h9 (by decide) | rfl) hfit9.out HT9.out (fun u hu => byts_oneCell _ u (List.mem_of_mem_take hu)) ?_; intro w4 hm4) | (go_simp; go_at_call 61; refine (sector_any wb _ _ g D gi (some ⟨gp, 0, none⟩) ka ic pc kn kc (by first | exact HM2.out.p4 | exact HM2.out.p4.drew) hil i1 i2 si (by omega)).mono ?_; rintro e w3 ⟨rfl, rfl⟩))
            all_goals
              rw [List.take_take, Nat.min_self] at hm4
              have hm5 := Mem.img_back (img' := put img (si, bs) (remains l k)) hm4 (by rw [HI.out]; omega) (by rw [show bs.length = 512 from ZL.out]; omega) (by rw [HI.out]; exact i1) i2 J1.out (by rw [HL.out]; rfl)
              have HM5 := hid hm5
              clear hm4 hm5
              go_wp2_with fail
              go_roundw
              case rel => exact ⟨k + 1, put img (si, bs) (remains l k), by omega, by go_num, by rw [put_length _ _ _ (by rw [HI.out]; exact zs1) ZL.out]; exact HI.out, by rw [← fall_drop l D.pend k _ HPZ.out img]; exact HF.out, HM5.out.p1.right.q4⟩
              case measure => simp [intOf] <;> omega
          · by_cases o2 : 512 < l.off
            · replace HL : Hid (remains l k = 512) := by show _ = _; rw [HL.out]; omega
              go_wp2_with fail
              have HT9 := hid (HSZ.out.take (512) (by omega)).drew
              have hfit9 : Hid (si * 512 + (512) ≤ (byts img ++ rest2).length) := by
                show _ ≤ _
                have hi9 := HI.out
                simp only [List.length_append, byts_length]
                omega
              go_region_law (first | ((with_reducible show (if Region.wanted (Oper.mk (some 38) _ _ _ _ _) _ = true then _ else _)); refine step_copy (by rfl) (.tmp 33) (.tmp 37) 37 37 (by rfl) Try.underlying37 u8size (by rfl) (by rfl) HMI.out.drew (by rfl) (si * 512) (512) (by show _ = min _ _; omega) (fun h9 => by first | exact absurd h9 (by decide) | rfl) hfit9.out HT9.out (fun u hu => byts_oneCell _ u (List.mem_of_mem_take hu)) ?_; intro w4 hm4) | (go_simp; go_at_call 61; refine (sector_any wb _ _ g D gi (some ⟨gp, 0, none⟩) ka ic pc kn kc (by first | exact HM2.out.p4 | exact HM2.out.p4.drew) hil i1 i2 si (by omega)).mono ?_; rintro e w3 ⟨rfl, rfl⟩))
              all_goals
                rw [List.take_take, Nat.min_self] at hm4
                have hm5 := Mem.img_back (img' := put img (si, bs) (remains l k)) hm4 (by rw [HI.out]; omega) (by rw [show bs.length = 512 from ZL.out]; omega) (by rw [HI.out]; exact i1) i2 J1.out (by rw [HL.out]; rfl)
                have HM5 := hid hm5
                clear hm4 hm5
                go_wp2_with fail
                go_roundw
                case rel => exact ⟨k + 1, put img (si, bs) (remains l k), by omega, by go_num, by rw [put_length _ _ _ (by rw [HI.out]; exact zs1) ZL.out]; exact HI.out, by rw [← fall_drop l D.pend k _ HPZ.out img]; exact HF.out, HM5.out.p1.right.q4⟩
                case measure => simp [intOf] <;> omega
            · replace HL : Hid (remains l k = l.off.toNat) := by show _ = _; rw [HL.out]; omega
              have o3 : l.off ≤ (bc : Int) := by omega
              go_wp2_with fail
              have HT9 := hid (HSZ.out.take (l.off.toNat) (by omega)).drew
              have hfit9 : Hid (si * 512 + (l.off.toNat) ≤ (byts img ++ rest2).length) := by
                show _ ≤ _
                have hi9 := HI.out
                simp only [List.length_append, byts_length]
                omega
              go_region_law (first | ((with_reducible show (if Region.wanted (Oper.mk (some 38) _ _ _ _ _) _ = true then _ else _)); refine step_copy (by rfl) (.tmp 33) (.tmp 37) 37 37 (by rfl) Try.underlying37 u8size (by rfl) (by rfl) HMI.out.drew (by rfl) (si * 512) (l.off.toNat) (by show _ = min _ _; omega) (fun h9 => by first | exact absurd h9 (by decide) | rfl) hfit9.out HT9.out (fun u hu => byts_oneCell _ u (List.mem_of_mem_take hu)) ?_; intro w4 hm4) | (go_simp; go_at_call 61; refine (sector_any wb _ _ g D gi (some ⟨gp, 0, none⟩) ka ic pc kn kc (by first | exact HM2.out.p4 | exact HM2.out.p4.drew) hil i1 i2 si (by omega)).mono ?_; rintro e w3 ⟨rfl, rfl⟩))
              all_goals
                rw [List.take_take, Nat.min_self] at hm4
                have hm5 := Mem.img_back (img' := put img (si, bs) (remains l k)) hm4 (by rw [HI.out]; omega) (by rw [show bs.length = 512 from ZL.out]; omega) (by rw [HI.out]; exact i1) i2 J1.out (by rw [HL.out]; rfl)
                have HM5 := hid hm5
                clear hm4 hm5
                go_wp2_with fail
                go_roundw
                case rel => exact ⟨k + 1, put img (si, bs) (remains l k), by omega, by go_num, by rw [put_length _ _ _ (by rw [HI.out]; exact zs1) ZL.out]; exact HI.out, by rw [← fall_drop l D.pend k _ HPZ.out img]; exact HF.out, HM5.out.p1.right.q4⟩
                case measure => simp [intOf] <;> omega
        · have HL : Hid (remains l k = 0) := by show _ = _; simp [remains, hkf, htn]
          have htb : ((k : Int) == l.torn) = false := by simpa using htn
          clear htn
          go_wp2_with fail
          have HT9 := hid (HSZ.out.take (0) (by omega)).drew
          have hfit9 : Hid (si * 512 + (0) ≤ (byts img ++ rest2).length) := by
            show _ ≤ _
            have hi9 := HI.out
            simp only [List.length_append, byts_length]
            omega
          go_region_law (first | ((with_reducible show (if Region.wanted (Oper.mk (some 38) _ _ _ _ _) _ = true then _ else _)); refine step_copy (by rfl) (.tmp 33) (.tmp 37) 37 37 (by rfl) Try.underlying37 u8size (by rfl) (by rfl) HMI.out.drew (by rfl) (si * 512) (0) (by show _ = min _ _; omega) (fun h9 => by first | exact absurd h9 (by decide) | rfl) hfit9.out HT9.out (fun u hu => byts_oneCell _ u (List.mem_of_mem_take hu)) ?_; intro w4 hm4) | (go_simp; go_at_call 61; refine (sector_any wb _ _ g D gi (some ⟨gp, 0, none⟩) ka ic pc kn kc (by first | exact HM2.out.p4 | exact HM2.out.p4.drew) hil i1 i2 si (by omega)).mono ?_; rintro e w3 ⟨rfl, rfl⟩))
          all_goals
            rw [List.take_take, Nat.min_self] at hm4
            have hm5 := Mem.img_back (img' := put img (si, bs) (remains l k)) hm4 (by rw [HI.out]; omega) (by rw [show bs.length = 512 from ZL.out]; omega) (by rw [HI.out]; exact i1) i2 J1.out (by rw [HL.out]; rfl)
            have HM5 := hid hm5
            clear hm4 hm5
            go_wp2_with fail
            go_roundw
            case rel => exact ⟨k + 1, put img (si, bs) (remains l k), by omega, by go_num, by rw [put_length _ _ _ (by rw [HI.out]; exact zs1) ZL.out]; exact HI.out, by rw [← fall_drop l D.pend k _ HPZ.out img]; exact HF.out, HM5.out.p1.right.q4⟩
            case measure => simp [intOf] <;> omega
    · obtain rfl : k = n := by omega
      have hd := hm.p3
      obtain ⟨e0, e1, e2, e3, e4, e5, e6, e7⟩ := dev_cells hd
      obtain ⟨f0, f1, f2, f3, f4, f5, f6, f7⟩ := dev_free hd
      have HD := hid hd
      clear hd hm
      go_wp2_with fail
      go_end0
      refine ⟨rfl, Mem.dev0.2 ⟨some ⟨gi, 0, none⟩, ic, none, 0, ?_⟩⟩
      have hq := ((HD.out.setCell 1 (.slice none 0 0)).setCell 2 (.bool true)).setCell 3 (.int .i64 0)
      have hi' : (D.fall l).img = img := by
        have := HF.out
        rw [List.drop_of_length_le (by rw [HN.out]; exact Nat.le_refl _)] at this
        exact this.symm
      have hl' : (D.fall l).pend = [] := rfl
      rw [hi', hl']
      have e : devCells (D.fall l) (some ⟨gi, 0, none⟩) ic none 0 ka kn kc = (((devCells D (some ⟨gi, 0, none⟩) ic pa pc ka kn kc).set 1 (.slice none 0 0)).set 2 (.bool true)).set 3 (.int .i64 0) := by
        simp [devCells, Dev.fall]
        show (D.fall l).img.length = _
        rw [hi', HI.out]
      rw [e]
      exact (Mem.pends_nil hq.p1.right.p1.right.p1.right).q2
end Go.Proofs.Ytpaebopmppbjbaa
