/- The walk of Cache (package sectors). -/
import Derived.Test.YtpaebopmppbjbaaSec7
set_option linter.unusedVariables false
set_option linter.unusedSimpArgs false
namespace Go.Proofs.Ytpaebopmppbjbaa
open Go Go.RowKit Go.Le

theorem Clip_any (w : World) (a : Option Addr) (n c : Nat) (hn : n ≤ c) (hc : c ≤ 9223372036854775807) :
    Calls Try.prog 37 #[.slice a n c] w fun e w' => e = .returned (.slice a n n) ∧ w = w' := by
  go_enter Try.func37, Try.ntmps37
  have h1 : (n : Int) ≤ (c : Int) := by omega
  go_wp2
  go_ret
  exact ⟨by simp, rfl⟩

set_option maxRecDepth 20000 in
set_option maxHeartbeats 1000000 in
theorem Cache_any (wb w : World) (R : HP) (g : Nat) (D : Dev) (ka : Option Addr) (kn kc : Nat) (h : Mem wb w (dev0 T8 g D ka kn kc * R)) (hok : D.ok) (hpl : D.pend.length ≤ 1000000000) :
    Calls Try.prog 16 #[.pointer (some ⟨g, 0, none⟩)] w fun e w' => ∃ a, e = .returned (.slice a D.pend.length D.pend.length) ∧ Mem wb w' (pends T8.u8 T8.pe a D.pend.length D.pend * (dev0 T8 g D ka kn kc * R)) := by
  have HOK := hid hok
  obtain ⟨ia, ic, pa, pc, hm⟩ := Mem.dev0.1 h
  have c1 := (dev_cells hm).2.1
  obtain ⟨zs, hz, hp⟩ := Mem.pends.1 hm.p2
  have HP := hid hp
  have HZ := hid hz
  have hzl : zs.length = D.pend.length := by rw [← hz]; simp
  have HZL := hid hzl
  clear h hok hm hp hz hzl
  generalize hnl : D.pend.length = n at *
  have HN := hid hnl
  clear hnl
  obtain ⟨Z, hZ⟩ : ∃ Z, Z = List.replicate 512 (Value.int .u8 0) := ⟨_, rfl⟩
  have hmk := run_make_bytes (P := Try.prog) 37 5 Try.underlying37 u8info .i64 .i64 512 (by omega) (by omega)
  have e5 : Int.toNat 512 = 512 := rfl
  rw [e5, ← hZ] at hmk
  have HZl : Hid (Z.length = 512) := by show _ = _; rw [hZ]; simp
  have HZR := hid hZ
  obtain ⟨pi, hi, hzz, hsz, hby⟩ := info_parts peInfo
  have JI := hid hi
  have JZ := hid hzz
  have JS := hid hsz
  have JB := hid hby
  clear hi hzz hsz hby e5 hZ
  go_enter Try.func16, Try.ntmps16
  go_wp2_with fail
  go_loopw [3, 12] (fun s i wr => ∃ (k : Nat) (oa : Option Addr) (oc : Nat), k ≤ n ∧ i = .int .i64 k ∧ s = .slice oa k oc ∧
    Mem wb wr (pends T8.u8 T8.pe oa oc (D.pend.take k) * (row T8.pe 2 pa n pc (pzCells zs) * (all (zs.map (pzRow T8.u8)) * (pts g T8.dv (devCells D ia ic pa pc ka kn kc) * (row T8.u8 1 ia D.img.length ic (byts D.img) * R)))))) (fun _ i _ => n - (intOf i).toNat)
  case atStart => exact ⟨0, none, 0, by omega, rfl, rfl, Mem.pends_nil HP.out⟩
  case round =>
    obtain ⟨k, oa, oc, hk, rfl, rfl, hm⟩ := hrel
    by_cases hlt : k < n
    · obtain ⟨gp, rest, rfl, r1, r2, r3, r4, hmp⟩ := hm.p1.row_at (by omega)
      obtain ⟨z, hz⟩ : ∃ z, zs[k]? = some z := ⟨zs[k]'(by rw [HZL.out]; exact hlt), List.getElem?_eq_getElem _⟩
      have hpk := pz_cells zs k z hz
      have hp0 := hmp.cell (k * 2)
      have hp1 := hmp.cell (k * 2 + 1)
      rw [List.getElem?_append_left (by rw [r1]; omega)] at hp0 hp1
      rw [hpk.1] at hp0
      rw [hpk.2] at hp1
      have HZK := hid hz
      have hpz : D.pend[k]? = some z.1 := by rw [← HZ.out, List.getElem?_map, hz]; rfl
      have hzo := HOK.out.pend z.1 (List.mem_of_getElem? hpz)
      obtain ⟨zs1, zs2⟩ := hzo
      have HPZ := hid hpz
      have ZL := hid zs2
      rw [zs2] at hp1
      obtain ⟨⟨si, bs⟩, ba, bc⟩ := z
      simp only at hp0 hp1 zs1 zs2
      obtain ⟨Az, hmz⟩ := Mem.pz hm.p2 HZK.out
      have hsz := hmz.row_sl
      simp only at hsz
      rw [ZL.out] at hsz
      have HSZ := hid hsz
      have HM := hid hm
      obtain ⟨W1, hW1⟩ : ∃ W1, W1 = wr.alloc (Obj.cells #[Value.int IntKind.i64 (si : Int), .slice ba 512 bc] 85) := ⟨_, rfl⟩
      have hsW : W1.heap.size = wr.heap.size + 1 := by rw [hW1]; simp
      have ha1 := hm.alloc [Value.int IntKind.i64 (si : Int), .slice ba 512 bc] 85
      rw [← hW1] at ha1
      have ha2 := hid (ha1.alloc Z 5)
      have fW : Fr wr.heap.size [] wr W1 := by rw [hW1]; exact (by repeat (first | exact Fr.refl _ _ _ | assumption | apply Fr.drew | (refine Fr.drewN ?_ _) | (refine Fr.alloc ?_ (by first | omega | (simp; done) | (simp; omega)) _) | (refine Fr.setCell ?_ (by first | (left; simp; done) | (right; simp; done) | (right; simp; omega)) _)))
      rw [hsW] at ha2
      have b0 := ha2.out.p1.cell 0
      have b1 := ha2.out.p1.cell 1
      simp only [List.getElem?_cons_zero, List.getElem?_cons_succ] at b0 b1
      rw [hW1] at ha2 b0 b1 fW
      clear hpk hz hpz hmp hm r1 r4 zs2 hsz hmz ha1 hW1 hsW
      go_wp2_with ((with_reducible show wpList _ _ _ (Oper.mk (some 20) _ _ _ _ _ :: _) _ _); refine wpList_copy (by rfl) (.tmp 17) (.tmp 19) 37 37 (by rfl) Try.underlying37 u8size (by rfl) (by rfl) ha2.out (by rfl) 0 512 (by rfl) (fun _ => rfl) (by rw [HZl.out]; exact Nat.le_refl _) (HSZ.out.ext (by repeat (first | exact Fr.refl _ _ _ | assumption | apply Fr.drew | (refine Fr.drewN ?_ _) | (refine Fr.alloc ?_ (by first | omega | (simp; done) | (simp; omega)) _) | (refine Fr.setCell ?_ (by first | (left; simp; done) | (right; simp; done) | (right; simp; omega)) _)))) (byts_oneCell _) ?_)
      intro w2 hm2
      have e : splice Z 0 ((byts bs).take 512) = byts bs := by
        have hl := HSZ.out.len
        rw [HZR.out]; simp [splice, ← hl]
      rw [e] at hm2
      have b0 := hm2.p1.cell 0
      have b1 := hm2.p1.cell 1
      simp only [List.getElem?_cons_zero, List.getElem?_cons_succ] at b0 b1
      obtain ⟨ys, hys, hmy⟩ := Mem.pends.1 hm2.p2
      have hyl : (D.pend.take k).length = k := by rw [List.length_take, HN.out]; omega
      rw [hyl] at hmy
      have hq := hid (hmy.alloc [.int .i64 (si : Int), .slice (some ⟨wr.heap.size + 1, 0, none⟩) 512 512] 85)
      have HYS := hid hys
      have HYL := hid hyl
      have hrl := hmy.row_len
      clear hm2 hmy hys hyl
      go_wp2_with ((with_reducible show wpList _ _ _ (Oper.mk (some 27) _ _ _ _ _ :: _) _ _); refine wpList_append (by rfl) (.tmp 21) (.tmp 26) 49 (by rfl) Try.underlying49 JI.out JZ.out JS.out JB.out (by rfl) (by omega) (by rfl) (by rfl) hq.out.p1 rfl (by rfl) (news_built hq.out.blk.1) (by intro h; cases h) (by simp; exact ⟨rfl, rfl⟩) (by omega) (by omega) ?_)
      intro a' c' w3 hm3 _ _
      have hm4 := hid (Mem.push (L := D.pend.take k) (R := row T8.pe 2 (some ⟨gp, 0, none⟩) n pc (pzCells zs) * (all (zs.map (pzRow T8.u8)) * (pts g T8.dv (devCells D ia ic (some ⟨gp, 0, none⟩) pc ka kn kc) * (row T8.u8 1 ia D.img.length ic (byts D.img) * R)))) (u := T8.u8) (pt := T8.pe) (o := wr.heap.size + 1) (j := si) (a' := a') (c' := c') (by rw [HYL.out]; exact hm3.duo_row.p1.right.p3.right.eq (by first | rfl | (simp only [T8]; done))) HYS.out ZL.out)
      clear hm3
      have htk : Hid (D.pend.take (k + 1) = D.pend.take k ++ [(si, bs)]) := by
        obtain ⟨h1, h2⟩ := List.getElem?_eq_some_iff.1 HPZ.out
        show _ = _
        rw [List.take_succ_eq_append_getElem h1, h2]
      go_wp2_with fail
      go_roundw
      case rel => exact ⟨k + 1, a', c', by omega, by go_num, rfl, by rw [htk.out]; exact hm4.out⟩
      case measure => simp [intOf] <;> omega
    · obtain rfl : k = n := by omega
      rw [List.take_of_length_le (by rw [HN.out]; exact Nat.le_refl _)] at hm
      obtain ⟨ys, hys, hmy⟩ := Mem.pends.1 hm
      have hrl := hmy.row_len
      rw [HN.out] at hrl
      have HM := hid hmy
      have HYS := hid hys
      clear hm hmy hys
      go_wp2_with (go_at_call 37; refine (Clip_any _ _ _ _ hrl.2.1 hrl.2.2).mono ?_; rintro e w' ⟨rfl, rfl⟩; dsimp only)
      go_ret
      refine ⟨oa, rfl, Mem.pends.2 ⟨ys, HYS.out, ?_⟩⟩
      have h1 := HM.out
      rw [HN.out] at h1
      rw [HN.out]
      have h2 := h1.clip
      refine (Mem.dev0.2 ⟨ia, ic, pa, pc, ?_⟩).q2
      refine (Mem.pends.2 ⟨zs, HZ.out, ?_⟩).q2
      rw [HN.out]
      exact h2.eq (by ac_rfl)
end Go.Proofs.Ytpaebopmppbjbaa
