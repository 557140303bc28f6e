/- The walk of life's fell. -/
import Derived.Test.YtpdppacafkdgdaaKeep3
import Derived.Deep.CutBlock
import Derived.Deep.DeepCutAuto
set_option linter.unusedVariables false
set_option linter.unusedSimpArgs false
namespace Go.Le
open Go Go.RowKit
/-- the torn write's sector, as the law looks for it -/
def tornAt (l : Loss) (pend : List (Nat × List UInt8)) : Int := if 0 ≤ l.torn ∧ l.torn < (pend.length : Int) then (((pend[l.torn.toNat]?).map (·.1)).getD 0 : Nat) else -1
theorem strs_length (l : List (List UInt8)) : (strs l).length = l.length := by simp [strs]
theorem may_fall {D : Dev} (h : D.ok) (hi : D.img.length = 2048) (l : Loss) (i : Nat) (h4 : i < 4) : MayBe (allOf i (sec D.img i) D.pend) (sec (D.fall l).img i) ((i : Int) == tornAt l D.pend) := by
  have hk : i * 512 + 512 ≤ D.img.length := by rw [hi]; omega
  by_cases ht : (i : Int) = tornAt l D.pend
  · right
    refine ⟨by simpa using ht, fun j hj => fall_bytes l i j hj D.pend 0 D.img h.pend hk⟩
  · left
    refine fall_whole l i D.pend 0 D.img h.pend hk fun m p hm hp hmt => ht ?_
    have hml := (List.getElem?_eq_some_iff.1 hm).1
    unfold tornAt
    rw [if_pos ⟨by omega, by omega⟩]
    have e : l.torn.toNat = m := by omega
    rw [e, hm]
    simp [hp]
theorem allOf_len {D : Dev} (h : D.ok) (hi : D.img.length = 2048) (i : Nat) (h4 : i < 4) : ∀ x ∈ allOf i (sec D.img i) D.pend, x.length = 512 := by
  intro x hx
  unfold allOf at hx
  simp only [List.mem_cons, List.mem_map, List.mem_filter] at hx
  rcases hx with rfl | ⟨p, ⟨hp, _⟩, rfl⟩
  · exact sec_length (by rw [hi]; omega)
  · exact (h.pend p hp).2
end Go.Le
namespace Go.Proofs.Ytpdppacafkdgdaa
open Go Go.RowKit Go.Le

set_option maxRecDepth 20000 in
set_option maxHeartbeats 4000000 in
theorem fell_any (wb w : World) (R : HP) (g : Nat) (D : Dev) (l : Loss) (h : Mem wb w (lifeH g ⟨D.fall l, secs D, D.pend⟩ * R)) (hok : D.ok) (hi : D.img.length = 2048) (hn : D.pend.length ≤ 1000) (la : Option Addr) (ln lc : Nat) (hl : l.ok) :
    Calls Try.prog 40 #[.pointer (some ⟨g, 0, none⟩), .agg #[.slice la ln lc, .int .i64 l.torn, .int .i64 l.off]] w fun e w' => e = .returned (.bool true) ∧ Mem wb w' (lifeH g (lifeOf (D.fall l).up) * R) := by
  have hbox := h.alloc [.slice la ln lc, .int .i64 l.torn, .int .i64 l.off] 38
  have c0' : ∀ o : Obj, (w.alloc o).cell? _ = _ := fun o => (life_dev (h.alloc' o)).choose_spec.choose_spec.1
  obtain ⟨gd, A, c0, hdv, hback⟩ := life_dev hbox.p1
  obtain ⟨hokf, ka, kc, h5⟩ := Mem.devAt.1 hdv
  have hil : (D.fall l).img.length = 2048 := by show (fallFrom l 0 D.img D.pend).length = _; rw [fallFrom_length l 0 D.img D.pend hok.pend, hi]
  have HIM := hid (Image_any wb _ _ gd (D.fall l) ka _ kc h5 hokf)
  rw [hil] at HIM
  have HBK := hid hback
  have HOKF := hid hokf
  have HOK := hid hok
  have HL := hid hl
  have HI := hid hi
  have HIL := hid hil
  clear c0' h hbox hdv h5 hback hokf hok hl hi hil
  go_enter Try.func40, Try.ntmps40
  go_wp2_with fail
  refine HIM.out.mono ?_
  rintro e w2 ⟨a2, c2, rfl, hm2⟩
  dsimp only
  obtain ⟨gi, rest, rfl, -⟩ := hm2.row_at (by omega)
  have hd2 := (Mem.devAt.2 ⟨HOKF.out, ka, kc, hm2.p1.p2.p1⟩ : Mem wb w2 (devAt T8 gd (D.fall l) * _))
  have k2 := (HBK.out w2 (D.fall l) _ (hd2.eq (by ac_rfl : _ = devAt T8 gd (D.fall l) * (A * (row 5 1 (some ⟨gi, 0, none⟩) 2048 c2 (byts (D.fall l).img) * (pts w.heap.size 38 [.slice la ln lc, .int .i64 l.torn, .int .i64 l.off] * R)))))).1
  have hdn : (D.fall l).down = true := rfl
  have HDN := hid (Down_any wb w2 _ gd (D.fall l) ka _ kc hm2.p1)
  have HCA := hid (Cache_any wb w2 _ gd (D.fall l) ka _ kc hm2.p1 HOKF.out (by simp [Dev.fall]))
  have hpl : (D.fall l).pend.length = 0 := rfl
  have hslc := hm2.row_sl.le
  have hslc2 := hm2.row_sl.cap
  rw [hdn] at HDN
  rw [hpl] at HCA
  clear hm2 hd2 hdn hpl rest c0 HIM
  go_upto_region 5 with (first | (go_at_call 25; refine HDN.out.mono ?_; rintro e w' ⟨rfl, rfl⟩; dsimp only) | (go_at_call 27; refine HCA.out.mono ?_; rintro e w3 ⟨a3, rfl, hm3⟩; dsimp only))
  have hS3 : Mem wb w3 (lifeH g ⟨D.fall l, secs D, D.pend⟩ * (row 5 1 (some ⟨gi, 0, none⟩) 2048 c2 (byts (D.fall l).img) * (pts w.heap.size 38 [.slice la ln lc, .int .i64 l.torn, .int .i64 l.off] * R))) :=
    (HBK.out w3 (D.fall l) (row 5 1 (some ⟨gi, 0, none⟩) 2048 c2 (byts (D.fall l).img) * (pts w.heap.size 38 [.slice la ln lc, .int .i64 l.torn, .int .i64 l.off] * R)) ((show Mem wb w3 (devAt T8 gd (D.fall l) * (row 5 1 (some ⟨gi, 0, none⟩) 2048 c2 (byts (D.fall l).img) * (A * (pts w.heap.size 38 [.slice la ln lc, .int .i64 l.torn, .int .i64 l.off] * R)))) from Mem.devAt.2 ⟨HOKF.out, ka, kc, hm3.right.p2.p1⟩).eq (by ac_rfl))).2
  have HS3 := hid hS3
  obtain ⟨gd3, va, vc, lpa, lpc, hL⟩ := Mem.lifeAt.1 hS3
  have c2' : w3.cell? ⟨g, 2, none⟩ = some (.slice lpa D.pend.length lpc) := hL.cell 2
  have b1 := hS3.p2.cell 1
  have b2 := hS3.p2.cell 2
  simp only [List.getElem?_cons_zero, List.getElem?_cons_succ] at b1 b2
  obtain ⟨zs, hz, hp⟩ := Mem.pends.1 hL.p2
  have hzl : zs.length = D.pend.length := by have := congrArg List.length hz; rw [List.length_map] at this; exact this
  have HP := hid hp
  have HZ := hid hz
  have HZL := hid hzl
  have hlt1 := HL.out.torn
  clear hS3 hL hp hz hzl hm3 k2 HDN HCA HBK
  generalize hnl : D.pend.length = n at *
  have HN := hid hnl
  clear hnl
  have ways : (decide (0 ≤ l.torn) = false ∨ (0 ≤ l.torn ∧ decide (l.torn < (n : Int)) = false)) ∨ (0 ≤ l.torn ∧ l.torn < (n : Int)) := by
    by_cases h1 : 0 ≤ l.torn
    · by_cases h2 : l.torn < (n : Int)
      · exact .inr ⟨h1, h2⟩
      · exact .inl (.inr ⟨h1, by simpa using h2⟩)
    · exact .inl (.inl (by simpa using h1))
  go_cut [50] from 38 to 49 (fun s50 wx => s50 = .bool (decide (0 ≤ l.torn ∧ l.torn < (n : Int))) ∧ ∃ n, wx = w3.drewN n)
  case first =>
    rcases ways with (t0 | ⟨t0, t1⟩) | ⟨t0, t1⟩
    · go_quiet (fail)
      go_wp2_with fail
      go_meet
      exact ⟨by rw [decide_eq_false_iff_not] at t0; congr 1; symm; simp; omega, _, rfl⟩
    · go_quiet (fail)
      go_wp2_with fail
      go_meet
      exact ⟨by rw [decide_eq_false_iff_not] at t1; congr 1; symm; simp; omega, _, rfl⟩
    · go_quiet (fail)
      go_wp2_with fail
      go_meet
      exact ⟨by congr 1; symm; simp; omega, _, rfl⟩
  case rest =>
  obtain ⟨rfl, n1, rfl⟩ := hcut
  clear ways
  go_upto_if 50 with (fail)
  go_cut [6, 50] from 51 to 59 (fun s6 _ wx => s6 = .int .i64 (tornAt l D.pend) ∧ ∃ n, wx = w3.drewN n)
  case first =>
    by_cases ht : 0 ≤ l.torn ∧ l.torn < (n : Int)
    · have hd : decide (0 ≤ l.torn ∧ l.torn < (n : Int)) = true := by simpa using ht
      obtain ⟨t0, t1⟩ := ht
      obtain ⟨tn, htn⟩ : ∃ tn : Nat, l.torn = (tn : Int) := ⟨l.torn.toNat, by omega⟩
      obtain ⟨gp, rest2, rfl, r1, r2, r3, r4, hmp⟩ := HP.out.row_at (by omega)
      obtain ⟨z, hzk⟩ : ∃ z, zs[tn]? = some z := ⟨zs[tn]'(by rw [HZL.out]; omega), List.getElem?_eq_getElem _⟩
      have hpk := pz_cells zs tn z hzk
      have hp0 := hmp.cell (tn * 2)
      rw [List.getElem?_append_left (by omega), hpk.1] at hp0
      have hpz : D.pend[tn]? = some z.1 := by
        have h1 : (zs.map (·.1))[tn]? = some z.1 := by rw [List.getElem?_map, hzk]; rfl
        have h2 : zs.map (·.1) = D.pend := HZ.out
        rw [h2] at h1
        exact h1
      have HTZ : Hid (tornAt l D.pend = (z.1.1 : Int)) := by
        show _ = _
        unfold tornAt
        rw [if_pos ⟨t0, by rw [HN.out]; exact t1⟩, htn, Int.toNat_natCast, hpz]
        rfl
      rw [hd]
      rw [htn] at b1 t0 t1
      have HTN := hid htn
      clear hzk hpk hmp r1 r4 hpz htn hlt1 hd
      go_wp2_with fail
      go_quiet (fail)
      go_wp2_with fail
      go_meet
      exact ⟨by rw [HTZ.out], n1 + nq, by simp⟩
    · have hd : decide (0 ≤ l.torn ∧ l.torn < (n : Int)) = false := by simpa using ht
      rw [hd]
      have HTZ : Hid (tornAt l D.pend = -1) := by
        show _ = _
        unfold tornAt
        rw [if_neg (by rw [HN.out]; exact ht)]
      clear ht hd
      go_wp2_with fail
      go_meet
      exact ⟨by rw [HTZ.out], _, rfl⟩
  case rest =>
    obtain ⟨rfl, n0, rfl⟩ := hcut
    have HMAY : Hid (∀ i, i < 4 → MayBe (allOf i (sec D.img i) D.pend) (sec (D.fall l).img i) ((i : Int) == tornAt l D.pend)) := fun i h4 => may_fall HOK.out HI.out l i h4
    have HALL : Hid (∀ i, i < 4 → ∀ x ∈ allOf i (sec D.img i) D.pend, x.length = 512) := fun i h4 => allOf_len HOK.out HI.out i h4
    generalize tornAt l D.pend = tz at *
    have hm4 := hid (HS3.out.drewN n0)
    clear c2' b1 b2 HP HZ HZL hlt1 HS3
    go_wp2_with fail
    go_loopw [7] (fun i wr => ∃ k : Nat, k ≤ 4 ∧ i = .int .i64 k ∧ Mem wb wr (lifeH g ⟨D.fall l, secs D, D.pend⟩ * (row 5 1 (some ⟨gi, 0, none⟩) 2048 c2 (byts (D.fall l).img) * (pts w.heap.size 38 [.slice la ln lc, .int .i64 l.torn, .int .i64 l.off] * R)))) (fun i _ => 4 - (intOf i).toNat)
    case atStart => exact ⟨0, by omega, rfl, hm4.out⟩
    case round =>
      obtain ⟨k, hk, rfl, hm⟩ := hrel
      clear hm4
      by_cases hlt : k < 4
      · have k1 : (k : Int) * 512 ≤ (k : Int) * 512 + 512 := by omega
        have k2 : (k : Int) * 512 + 512 ≤ (c2 : Int) := by omega
        have k3 : (0 : Int) ≤ (k : Int) * 512 := by omega
        have k4 : (k : Int) < 4 := by omega
        have k5 : k * 512 + 512 - k * 512 = 512 := by omega
        have HMY := hid (may_any wb wr _ g _ hm (by show D.pend.length ≤ _; rw [HN.out]; omega) k (by omega) _ (secs_at D k hlt) (some ⟨gi, k * 512, none⟩) (c2 - k * 512) (sec (D.fall l).img k) (fun w' h' => by
          have hcut := h'.row_sl.cut2 (k * 512) (k * 512 + 512) (some ⟨gi, k * 512, none⟩) 512 (c2 - k * 512) (by omega) (by omega) (by rw [if_neg (by omega)]; simp [Addr.add_lit]) (by omega) rfl
          rw [byts_take, byts_drop] at hcut
          have es : ((D.fall l).img.take (k * 512 + 512)).drop (k * 512) = sec (D.fall l).img k := by rw [List.drop_take]; simp [sec]
          rw [es] at hcut
          exact hcut) ((k : Int) == tz) (HALL.out k hlt) (HMAY.out k hlt))
        clear hm
        go_wp2_with fail
        refine HMY.out.mono ?_
        rintro e w' ⟨rfl, hm⟩
        dsimp only
        have HM5 := hid hm
        clear hm HMY
        go_wp2_with fail
        go_roundw
        case rel => exact ⟨k + 1, by omega, by go_num, HM5.out⟩
        case measure => simp [intOf] <;> omega
      · obtain rfl : k = 4 := by omega
        rw [show ((4 : Nat) : Int) = 4 from rfl]
        have hm4 := hid hm
        clear hm hk
        go_wp2_with fail
        go_loopw [9] (fun i wr => ∃ k : Nat, k ≤ 4 ∧ i = .int .i64 k ∧ Mem wb wr (lifeH g ⟨D.fall l, (secs (D.fall l)).take k ++ (secs D).drop k, D.pend⟩ * (row 5 1 (some ⟨gi, 0, none⟩) 2048 c2 (byts (D.fall l).img) * (pts w.heap.size 38 [.slice la ln lc, .int .i64 l.torn, .int .i64 l.off] * R)))) (fun i _ => 4 - (intOf i).toNat)
        case atStart => exact ⟨0, by omega, rfl, hm4.out⟩
        case round =>
          obtain ⟨k, hk, rfl, hm⟩ := hrel
          clear hm4
          by_cases hlt : k < 4
          · have k1 : (k : Int) * 512 ≤ (k : Int) * 512 + 512 := by omega
            have k2 : (k : Int) * 512 + 512 ≤ (c2 : Int) := by omega
            have k3 : (0 : Int) ≤ (k : Int) * 512 := by omega
            have k4 : (k : Int) < 4 := by omega
            have k5 : k * 512 + 512 - k * 512 = 512 := by omega
            have hcut := (hm.p1.row_sl : Sl wr (some ⟨gi, 0, none⟩) 2048 c2 (byts (D.fall l).img)).cut2 (k * 512) (k * 512 + 512) (some ⟨gi, k * 512, none⟩) 512 (c2 - k * 512) (by omega) (by omega) (by rw [if_neg (by omega)]; simp [Addr.add_lit]) (by omega) rfl
            rw [byts_take, byts_drop] at hcut
            have es : ((D.fall l).img.take (k * 512 + 512)).drop (k * 512) = sec (D.fall l).img k := by rw [List.drop_take]; simp [sec]
            rw [es] at hcut
            have hst := fun n => conv_str (hcut.drewN n)
            obtain ⟨gd4, va4, vc4, lpa4, lpc4, hL⟩ := Mem.lifeAt.1 hm
            have hl4 : ((secs (D.fall l)).take k ++ (secs D).drop k).length = 4 := by rw [List.length_append, List.length_take, List.length_drop, secs_length, secs_length]; omega
            have c1 := hL.cell 1
            simp only [List.getElem?_cons_zero, List.getElem?_cons_succ] at c1
            obtain ⟨gv, rest4, rfl, v1, v2, v3, v4, hv⟩ := hL.p1.row_at (by show 0 < ((secs (D.fall l)).take k ++ (secs D).drop k).length; omega)
            replace c1 : wr.cell? ⟨g, 1, none⟩ = some (.slice (some ⟨gv, 0, none⟩) ((secs (D.fall l)).take k ++ (secs D).drop k).length vc4) := c1
            rw [hl4] at c1
            have fv := hv.frozen k
            have vk : (strs ((secs (D.fall l)).take k ++ (secs D).drop k) ++ rest4).length = 4 * 1 + rest4.length := by rw [List.length_append, v1]; simp [hl4]
            have cv := hv.cell k
            obtain ⟨ov, hov⟩ : ∃ ov, (strs ((secs (D.fall l)).take k ++ (secs D).drop k) ++ rest4)[k]? = some ov := ⟨_, List.getElem?_eq_getElem (by rw [vk]; omega)⟩
            rw [hov] at cv
            have hsv := hv.setCell k (.string ⟨(sec (D.fall l).img k).toArray⟩)
            have hset : (strs ((secs (D.fall l)).take k ++ (secs D).drop k) ++ rest4).set k (.string ⟨(sec (D.fall l).img k).toArray⟩) = strs ((secs (D.fall l)).take (k + 1) ++ (secs D).drop (k + 1)) ++ rest4 := by
              have hk4 : k = 0 ∨ k = 1 ∨ k = 2 ∨ k = 3 := by omega
              rcases hk4 with rfl | rfl | rfl | rfl <;> rfl
            rw [hset] at hsv
            have hl5 : ((secs (D.fall l)).take (k + 1) ++ (secs D).drop (k + 1)).length = 4 := by rw [List.length_append, List.length_take, List.length_drop, secs_length, secs_length]; omega
            replace v2 : 4 ≤ vc4 := by have := v2; replace this : ((secs (D.fall l)).take k ++ (secs D).drop k).length ≤ vc4 := this; rw [hl4] at this; exact this
            rw [v1] at v4
            have hfold := Mem.of_row (e := 9) (s := 1) (n := 4) (c := vc4) (rest := rest4) (xs := strs ((secs (D.fall l)).take (k + 1) ++ (secs D).drop (k + 1))) rfl (by rw [strs_length, hl5]) v2 v3 (by rw [strs_length, hl5]; rw [show ((Life.mk (D.fall l) ((secs (D.fall l)).take k ++ (secs D).drop k) D.pend).image.length) = 4 from hl4] at v4; exact v4) hsv
            have hnext := (Mem.lifeAt (t := T8) (lt := 32) (st := 9) (g := g) (V := ⟨D.fall l, (secs (D.fall l)).take (k + 1) ++ (secs D).drop (k + 1), D.pend⟩)).2 ⟨gd4, some ⟨gv, 0, none⟩, vc4, lpa4, lpc4, by
              show Mem wb _ (pts g 32 [.pointer (some ⟨gd4, 0, none⟩), .slice (some ⟨gv, 0, none⟩) ((secs (D.fall l)).take (k + 1) ++ (secs D).drop (k + 1)).length vc4, .slice lpa4 D.pend.length lpc4] * (row 9 1 (some ⟨gv, 0, none⟩) ((secs (D.fall l)).take (k + 1) ++ (secs D).drop (k + 1)).length vc4 (strs ((secs (D.fall l)).take (k + 1) ++ (secs D).drop (k + 1))) * (pends T8.u8 T8.pe lpa4 lpc4 D.pend * (devAt T8 gd4 (D.fall l) * _))))
              rw [hl5]
              have := hfold.p1
              rw [show (Life.mk (D.fall l) ((secs (D.fall l)).take k ++ (secs D).drop k) D.pend).image.length = 4 from hl4] at this
              exact this⟩
            have HNX := hid hnext
            clear hm hL hv hset hsv hfold hnext hl5 vk v1 v4 hov es hcut
            have e1 : IntKind.i64.wrap ((k : Int) * 512) = (k : Int) * 512 := IntWalk.i64_in _ (by omega)
            have e2 : IntKind.i64.wrap ((k : Int) * 512 + 512) = (k : Int) * 512 + 512 := IntWalk.i64_in _ (by omega)
            have e3 : ((k : Int) * 512).toNat = k * 512 := by omega
            have e4 : ((k : Int) * 512 + 512).toNat = k * 512 + 512 := by omega
            have e5 : ¬ c2 = k * 512 := by omega
            have e6 : (k : Int) * 512 ≤ max ((k : Int) * 512 + 512) 0 := by omega
            have e7 : 0 ≤ (k : Int) * 512 + 512 := by omega
            have hsd := hst 1
            rw [show wr.drewN 1 = wr.drew from rfl] at hsd
            go_wp2_with fail
            go_region_law (fail)
            all_goals
              have HM7 := hid HNX.out.drew
              go_wp2_with fail
              go_roundw
              case rel => exact ⟨k + 1, by omega, by go_num, HM7.out⟩
              case measure => simp [intOf] <;> omega
          · obtain rfl : k = 4 := by omega
            replace hm : Mem wb wr (lifeH g ⟨D.fall l, secs (D.fall l), D.pend⟩ * (row 5 1 (some ⟨gi, 0, none⟩) 2048 c2 (byts (D.fall l).img) * (pts w.heap.size 38 [.slice la ln lc, .int .i64 l.torn, .int .i64 l.off] * R))) := hm
            obtain ⟨gd5, va5, vc5, lpa5, lpc5, hL⟩ := Mem.lifeAt.1 hm
            have d2 := hL.cell 2
            simp only [List.getElem?_cons_zero, List.getElem?_cons_succ] at d2
            have f2 := hL.frozen 2
            have hs := hL.setCell 2 (.slice none 0 0)
            have hnil := Mem.pends_nil (u := T8.u8) (pt := T8.pe) hs.p2.right
            have hlf := (Mem.lifeAt (t := T8) (lt := 32) (st := 9) (g := g) (V := ⟨D.fall l, secs (D.fall l), []⟩)).2 ⟨gd5, va5, vc5, none, 0, hnil.q2⟩
            have HLF := hid hlf
            obtain ⟨gd6, A6, e0, hdv, hback⟩ := life_dev hlf
            obtain ⟨-, ka6, kc6, h6⟩ := Mem.devAt.1 hdv
            have HRD := hid (Read_no wb _ _ gd6 (D.fall l) ka6 _ kc6 h6 HOKF.out 0 (by omega) (by omega) (by simp [Dev.asked, Dev.fall]))
            have ha : (D.fall l).asked 0 = 80 := by simp [Dev.asked, Dev.fall]
            rw [ha] at HRD
            have HUP := hid (Up_any wb _ _ gd6 (D.fall l) ka6 _ kc6 h6)
            have HBK := hid hback
            clear hm hL hs hnil hlf hdv hback h6 ha HMAY HALL
            go_wp2_with fail
            refine HRD.out.mono ?_
            rintro e w' ⟨rfl, rfl⟩
            dsimp only
            go_wp2_with fail
            refine HUP.out.mono ?_
            rintro e w9 ⟨rfl, hm9⟩
            dsimp only
            have hok9 : (D.fall l).up.ok := Dev.up_ok HOKF.out
            have h9 := HBK.out w9 (D.fall l).up _ ((show Mem wb w9 (devAt T8 gd6 (D.fall l).up * (A6 * _)) from Mem.devAt.2 ⟨hok9, ka6, kc6, hm9⟩))
            have g0 := h9.1
            have HDN := hid (Down_any wb w9 _ gd6 (D.fall l).up ka6 _ kc6 hm9)
            rw [show (D.fall l).up.down = false from rfl] at HDN
            have h10 : Mem wb w9 (lifeH g (lifeOf (D.fall l).up) * _) := h9.2
            have HRS := hid (reads_any wb w9 _ g _ h10 (by simp [lifeOf, Dev.up, Dev.fall]) (by simp [lifeOf, Dev.up, Dev.fall]) rfl (by show (D.fall l).img.length / 512 = 4; rw [HIL.out]) rfl (by
              intro i b hi hib
              rw [show (lifeOf (D.fall l).up).image = secs (D.fall l).up from rfl, secs_at _ i hi] at hib
              obtain rfl := Option.some.inj hib
              rfl))
            clear hm9 h9 h10 HRD HUP
            go_wp2_with (first | (go_at_call 25; refine HDN.out.mono ?_; rintro e w' ⟨rfl, rfl⟩; dsimp only) | (go_at_call 19; refine HRS.out.mono ?_; rintro e w' ⟨rfl, hm11⟩; dsimp only))
            have HF := hid hm11.p1.right.p1.right
            go_wp2_with fail
            go_ret
            exact ⟨rfl, HF.out⟩
end Go.Proofs.Ytpdppacafkdgdaa
