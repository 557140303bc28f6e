/- The walks of life's last, reads, durable. -/
import Derived.Test.YtpdppacafkdgdaaKeepP
set_option linter.unusedVariables false
set_option linter.unusedSimpArgs false
namespace Go.Proofs.Ytpdppacafkdgdaa
open Go Go.RowKit Go.Le
theorem strs_at {l : List (List UInt8)} {i : Nat} {b : List UInt8} (h : l[i]? = some b) : (strs l)[i]? = some (.string ⟨b.toArray⟩) := by simp [strs, h]
theorem conv_str {w : World} {a : Option Addr} {n c : Nat} {l : List UInt8} (h : Sl w a n c (byts l)) : (convert 34 9 (.slice a n c)).run Try.prog w = .ok (.string ⟨l.toArray⟩) w :=
  h.str (P := Try.prog) 34 9 5 Try.underlying34 Try.underlying5 Try.underlying9

set_option maxHeartbeats 1000000 in
theorem last_any (wb w : World) (R : HP) (g : Nat) (V : Life) (h : Mem wb w (lifeH g V * R)) (hn : V.list.length ≤ 1000000000) (i : Nat) (b : List UInt8) (hi : V.image[i]? = some b) (hil : V.image.length ≤ 1000) :
    Calls Try.prog 39 #[.pointer (some ⟨g, 0, none⟩), .int .i64 (i : Int)] w fun e w' => e = .returned (.string ⟨(lastOf i b V.list).toArray⟩) ∧ w = w' := by
  obtain ⟨gd, va, vc, la, lc, hL⟩ := Mem.lifeAt.1 h
  have c1 := hL.cell 1
  have c2 := hL.cell 2
  simp only [List.getElem?_cons_zero, List.getElem?_cons_succ] at c1 c2
  have hii := (List.getElem?_eq_some_iff.1 hi).1
  obtain ⟨gv, rest, rfl, v1, v2, v3, v4, hv⟩ := hL.p1.row_at (by omega)
  have s1 := hv.cell i
  rw [List.getElem?_append_left (by rw [v1]; omega), strs_at hi] at s1
  obtain ⟨zs, hz, hp⟩ := Mem.pends.1 hL.p2
  have hzl : zs.length = V.list.length := by rw [← hz]; simp
  have HP := hid hp
  have HZ := hid hz
  have HZL := hid hzl
  clear h hL hv hp hz hzl hi v1 v4
  generalize hnl : V.list.length = n at *
  generalize hml : V.image.length = m at *
  have HN := hid hnl
  clear hnl hml
  go_enter Try.func39, Try.ntmps39
  go_wp2_with fail
  go_loop [5, 6] (fun s j => ∃ k : Nat, k ≤ n ∧ j = .int .i64 k ∧ s = .string ⟨(lastOf i b (V.list.take k)).toArray⟩) (fun _ j => n - (intOf j).toNat)
  case atStart => exact ⟨0, by omega, rfl, by simp [lastOf]⟩
  case round =>
    obtain ⟨k, hk, rfl, rfl⟩ := hrel
    by_cases hlt : k < n
    · obtain ⟨gp, rest2, rfl, r1, r2, r3, r4, hmp⟩ := HP.out.row_at (by omega)
      obtain ⟨z, hz⟩ : ∃ z, zs[k]? = some z := ⟨zs[k]'(by rw [HZL.out]; exact hlt), List.getElem?_eq_getElem _⟩
      have hpk := pz_cells zs k z hz
      have hp0 := hmp.cell (k * 2)
      have hp1 := hmp.cell (k * 2 + 1)
      rw [List.getElem?_append_left (by rw [r1]; omega)] at hp0 hp1
      rw [hpk.1] at hp0
      rw [hpk.2] at hp1
      have hpz : V.list[k]? = some z.1 := by rw [← HZ.out, List.getElem?_map, hz]; rfl
      have HNX := hid (lastOf_take i b V.list k z.1 hpz)
      obtain ⟨Az, hmz⟩ := Mem.pz HP.out.right hz
      obtain ⟨⟨si, bs⟩, ba, bc⟩ := z
      have hst := conv_str hmz.row_sl
      simp only at hp0 hp1 HNX hst
      clear hpk hz hpz hmp hmz r1 r4
      by_cases hsi : si = i
      · have hb : ((si : Int) == (i : Int)) = true := by simp; omega
        rw [if_pos hsi] at HNX
        clear hsi
        go_wp2_with fail
        go_round
        case rel => exact ⟨k + 1, by omega, by go_num, by rw [HNX.out]⟩
        case measure => simp [intOf]; omega
      · have hb : ((si : Int) == (i : Int)) = false := by simp; omega
        rw [if_neg hsi] at HNX
        clear hsi
        go_wp2_with fail
        go_round
        case rel => exact ⟨k + 1, by omega, by go_num, by rw [HNX.out]⟩
        case measure => simp [intOf]; omega
    · obtain rfl : k = n := by omega
      have hfin : Hid (V.list.take k = V.list) := List.take_of_length_le (by rw [HN.out]; exact Nat.le_refl _)
      go_wp2_with fail
      go_ret
      exact ⟨by rw [hfin.out]; rfl, rfl⟩

/-- an operation of a life's own device, its book put aside -/
theorem life_dev {wb w : World} {R : HP} {g : Nat} {V : Life} (h : Mem wb w (lifeH g V * R)) : ∃ gd A, w.cell? ⟨g, 0, none⟩ = some (.pointer (some ⟨gd, 0, none⟩)) ∧ Mem wb w (devAt T8 gd V.d * (A * R)) ∧
    ∀ (w' : World) (D' : Dev) (R' : HP), Mem wb w' (devAt T8 gd D' * (A * R')) → w'.cell? ⟨g, 0, none⟩ = some (.pointer (some ⟨gd, 0, none⟩)) ∧ Mem wb w' (lifeH g { V with d := D' } * R') := by
  obtain ⟨gd, va, vc, la, lc, hL⟩ := Mem.lifeAt.1 h
  refine ⟨gd, pts g 32 [.pointer (some ⟨gd, 0, none⟩), .slice va V.image.length vc, .slice la V.list.length lc] * (row 9 1 va V.image.length vc (strs V.image) * pends T8.u8 T8.pe la lc V.list), hL.cell 0, hL.p3.eq (by ac_rfl), fun w' D' R' h' => ?_⟩
  have h2 : Mem wb w' (pts g 32 [.pointer (some ⟨gd, 0, none⟩), .slice va V.image.length vc, .slice la V.list.length lc] * (row 9 1 va V.image.length vc (strs V.image) * (pends T8.u8 T8.pe la lc V.list * (devAt T8 gd D' * R')))) := h'.eq (by ac_rfl)
  exact ⟨h2.cell 0, Mem.lifeAt.2 ⟨gd, va, vc, la, lc, h2⟩⟩

set_option maxHeartbeats 1000000 in
/-- every sector is read as the book has it -/
theorem reads_any (wb w : World) (R : HP) (g : Nat) (V : Life) (h : Mem wb w (lifeH g V * R)) (hn : V.list.length ≤ 1000000000) (hp : V.d.pend.length ≤ 1000000000) (hd : V.d.down = false) (hN : V.d.n = 4) (hl : V.image.length = 4)
    (hb : ∀ i b, i < 4 → V.image[i]? = some b → V.d.last i = lastOf i b V.list) :
    Calls Try.prog 19 #[.pointer (some ⟨g, 0, none⟩)] w fun e w' => e = .returned (.bool true) ∧ Mem wb w' (lifeH g V * R) := by
  have H := hid h
  have HB := hid hb
  have HD := hid hd
  have HNN := hid hN
  have HL := hid hl
  clear h hb hd hN hl
  go_enter Try.func19, Try.ntmps19
  go_wp2_with fail
  go_loopw [3] (fun i wr => ∃ k : Nat, k ≤ 4 ∧ i = .int .i64 k ∧ Mem wb wr (lifeH g V * R)) (fun i _ => 4 - (intOf i).toNat)
  case atStart => exact ⟨0, by omega, rfl, H.out⟩
  case round =>
    obtain ⟨k, hk, rfl, hm⟩ := hrel
    by_cases hlt : k < 4
    · obtain ⟨gd, A, c0, hdv, hback⟩ := life_dev hm
      obtain ⟨hok, ka, kc, h5⟩ := Mem.devAt.1 hdv
      have HR := hid (Read_any wb wr _ gd V.d ka _ kc h5 hok hp k (by rw [HNN.out]; exact hlt) HD.out)
      have HOK := hid hok
      have HBK := hid hback
      clear hm hdv hok h5 hback
      go_wp2_with fail
      refine HR.out.mono ?_
      rintro e w2 ⟨a2, c2, rfl, hm2⟩
      have hst := fun n => conv_str (hm2.row_sl.drewN n)
      have hlf := (HBK.out w2 V.d (row 5 1 a2 512 c2 (byts (V.d.last k)) * R) ((Mem.devAt.2 ⟨HOK.out, ka, kc, hm2.p1.p2.p1⟩).eq (by ac_rfl))).2
      obtain ⟨b, hbk⟩ : ∃ b, V.image[k]? = some b := ⟨V.image[k]'(by rw [HL.out]; exact hlt), List.getElem?_eq_getElem _⟩
      have hlast := fun n => (last_any wb (w2.drewN n) _ g V (hlf.drewN n) hn k b hbk (by rw [HL.out]; omega)).mono fun e w'' ⟨he, hw⟩ => (⟨he, n, hw.symm⟩ : _ ∧ ∃ m, w'' = w2.drewN m)
      rw [HB.out k b hlt hbk] at hst
      have HLF := hid hlf
      have HLA := hid hlast
      clear hm2 hlast hlf hbk
      generalize lastOf k b V.list = q at *
      dsimp only
      go_wp2_with fail
      go_quiet ((go_at_call 39; exact HLA.out _))
      have hq := HLF.out.drewN nq
      generalize w2.drewN nq = w3 at *
      have HQ := hid hq
      clear hq
      go_wp2_with fail
      go_roundw
      case rel => exact ⟨k + 1, by omega, by go_num, HQ.out.p1.right⟩
      case measure => simp [intOf] <;> omega
    · obtain rfl : k = 4 := by omega
      have HM := hid hm
      clear hm
      go_wp2_with fail
      go_ret
      exact ⟨rfl, HM.out⟩

set_option maxRecDepth 20000 in
set_option maxHeartbeats 1000000 in
/-- the image is the book's -/
theorem durable_any (wb w : World) (R : HP) (g : Nat) (V : Life) (h : Mem wb w (lifeH g V * R)) (hi : V.d.img.length = 2048) (hl : V.image.length = 4) (hb : ∀ i b, i < 4 → V.image[i]? = some b → sec V.d.img i = b) :
    Calls Try.prog 20 #[.pointer (some ⟨g, 0, none⟩)] w fun e w' => e = .returned (.bool true) ∧ Mem wb w' (lifeH g V * R) := by
  obtain ⟨gd, A, c0, hdv, hback⟩ := life_dev h
  obtain ⟨hok, ka, kc, h5⟩ := Mem.devAt.1 hdv
  have HIM := hid (Image_any wb w _ gd V.d ka _ kc h5 hok)
  rw [hi] at HIM
  have HB := hid hb
  have HL := hid hl
  have HOK := hid hok
  have HBK := hid hback
  have HI := hid hi
  clear h hdv hok h5 hback hb hl hi
  go_enter Try.func20, Try.ntmps20
  go_wp2_with fail
  refine HIM.out.mono ?_
  rintro e w2 ⟨a2, c2, rfl, hm2⟩
  dsimp only
  have hsl := hm2.row_sl
  obtain ⟨gi, rest, rfl, -⟩ := hm2.row_at (by omega)
  have hlf := (HBK.out w2 V.d (row 5 1 (some ⟨gi, 0, none⟩) 2048 c2 (byts V.d.img) * R) ((Mem.devAt.2 ⟨HOK.out, ka, kc, hm2.p1.p2.p1⟩).eq (by ac_rfl))).2
  have hc2 := hsl.le
  have hc3 := hsl.cap
  have HSL := hid hsl
  have HLF := hid hlf
  obtain ⟨gd', va, vc, la, lc, hL⟩ := Mem.lifeAt.1 hlf
  have c1 := hL.cell 1
  simp only [List.getElem?_cons_zero, List.getElem?_cons_succ] at c1
  replace c1 : w2.cell? ⟨g, 1, none⟩ = some (.slice va V.image.length vc) := c1
  obtain ⟨gv, rest3, rfl, v1, v2, v3, v4, hv⟩ := hL.p1.row_at (by show 0 < V.image.length; rw [HL.out]; omega)
  have hstr : Hid (∀ k, k < 4 → ∃ b, V.image[k]? = some b ∧ w2.cell? ⟨gv, k, none⟩ = some (.string ⟨b.toArray⟩)) := by
    intro k hk
    have hb : V.image[k]? = some (V.image[k]'(by rw [HL.out]; exact hk)) := List.getElem?_eq_getElem _
    refine ⟨_, hb, ?_⟩
    have h1 := hv.cell k
    rw [List.getElem?_append_left (by rw [v1]; show k < V.image.length * 1; rw [HL.out]; omega)] at h1
    rw [h1]
    exact strs_at hb
  clear hm2 hsl hlf rest HIM c0 hL hv v1 v4 rest3
  rw [HL.out] at c1 
  replace v2 : 4 ≤ vc := by have := v2; replace this : V.image.length ≤ vc := this; rw [HL.out] at this; exact this
  go_wp2_with fail
  go_loopw [4] (fun i wr => ∃ k : Nat, k ≤ 4 ∧ i = .int .i64 k ∧ ∃ n, wr = w2.drewN n) (fun i _ => 4 - (intOf i).toNat)
  case atStart => exact ⟨0, by omega, rfl, 0, rfl⟩
  case round =>
    obtain ⟨k, hk, rfl, n0, rfl⟩ := hrel
    by_cases hlt : k < 4
    · obtain ⟨b, hb, hcb⟩ := hstr.out k hlt
      have hcut := HSL.out.cut2 (k * 512) (k * 512 + 512) (some ⟨gi, k * 512, none⟩) 512 (c2 - k * 512) (by omega) (by omega) (by rw [if_neg (by omega)]; simp [Addr.add_lit]) (by omega) rfl
      rw [byts_take, byts_drop] at hcut
      have es : (V.d.img.take (k * 512 + 512)).drop (k * 512) = b := by
        rw [← HB.out k b hlt hb, List.drop_take]; simp [sec]
      rw [es] at hcut
      have hst := fun n => conv_str (hcut.drewN n)
      have k1 : (k : Int) * 512 ≤ (k : Int) * 512 + 512 := by omega
      have k2 : (k : Int) * 512 + 512 ≤ (c2 : Int) := by omega
      have k3 : (0 : Int) ≤ (k : Int) * 512 := by omega
      have k4 : (k : Int) < 4 := by omega
      have k5 : k * 512 + 512 - k * 512 = 512 := by omega
      clear hcut es hb
      go_wp2_with fail
      go_quiet (fail)
      go_wp2_with fail
      go_roundw
      case rel => exact ⟨k + 1, by omega, by go_num, _, rfl⟩
      case measure => simp [intOf] <;> omega
    · obtain rfl : k = 4 := by omega
      have HM := HLF.out.drewN n0
      go_wp2_with fail
      go_ret
      exact ⟨rfl, HM.p1.right⟩
end Go.Proofs.Ytpdppacafkdgdaa
