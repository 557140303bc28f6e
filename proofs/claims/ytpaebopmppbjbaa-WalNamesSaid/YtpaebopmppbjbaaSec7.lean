/- The walks of Read and Cache (package sectors). -/
import Derived.Test.YtpaebopmppbjbaaSec6
set_option linter.unusedVariables false
set_option linter.unusedSimpArgs false
namespace Go.Le
open Go Go.RowKit
theorem lastOf_take (i : Nat) (b : List UInt8) (pend : List (Nat × List UInt8)) (k : Nat) (p : Nat × List UInt8) (h : pend[k]? = some p) : lastOf i b (pend.take (k + 1)) = if p.1 = i then p.2 else lastOf i b (pend.take k) := by
  obtain ⟨h1, h2⟩ := List.getElem?_eq_some_iff.1 h
  rw [List.take_succ_eq_append_getElem h1, h2]
  simp [lastOf]
theorem lastOf_length (i : Nat) : ∀ (pend : List (Nat × List UInt8)) (b : List UInt8), b.length = 512 → (∀ p ∈ pend, p.2.length = 512) → (lastOf i b pend).length = 512
  | [], b, hb, _ => hb
  | p :: r, b, hb, h => by
    show (lastOf i (if p.1 = i then p.2 else b) r).length = 512
    refine lastOf_length i r _ ?_ (fun q hq => h q (by simp [hq]))
    split
    · exact h p (by simp)
    · exact hb
theorem sec_length {img : List UInt8} {i : Nat} (h : i * 512 + 512 ≤ img.length) : (sec img i).length = 512 := by simp [sec]; omega
theorem Dev.last_length {D : Dev} (h : D.ok) {i : Nat} (hi : i < D.n) : (D.last i).length = 512 := lastOf_length i _ _ (sec_length (h.sector hi)) (fun p hp => (h.pend p hp).2)
theorem Mem.clip {wb w : World} {R : HP} {e : TypeId} {a : Option Addr} {s n c : Nat} {xs : List Value} (h : Mem wb w (row e s a n c xs * R)) : Mem wb w (row e s a n n xs * R) := by
  cases a with
  | none =>
    obtain ⟨rfl, rfl, rfl, h2⟩ := Mem.row_none.1 h
    exact Mem.row_none.2 ⟨rfl, rfl, rfl, h2⟩
  | some p =>
    obtain ⟨b, o, sp⟩ := p
    obtain ⟨rest, rfl, rfl, h1, h2, h3, h4, h5⟩ := Mem.row_some.1 h
    exact Mem.row_some.2 ⟨rest, rfl, rfl, h1, Nat.le_refl _, by omega, by omega, h5⟩
end Go.Le
namespace Go.Proofs.Ytpaebopmppbjbaa
open Go Go.RowKit Go.Le

theorem Read_no (wb w : World) (R : HP) (g : Nat) (D : Dev) (ka : Option Addr) (kn kc : Nat) (h : Mem wb w (dev0 T8 g D ka kn kc * R)) (hok : D.ok) (i : Int) (i1 : -9223372036854775808 ≤ i) (i2 : i ≤ 9223372036854775807) (ha : D.asked i ≠ 0) :
    Calls Try.prog 48 #[.pointer (some ⟨g, 0, none⟩), .int .i64 i] w fun e w' => e = .returned (.tuple #[.slice none 0 0, .int .i64 (D.asked i)]) ∧ w = w' := by
  have HA := hid (asked_any wb w _ g D ka _ kc h hok i i1 i2)
  have bn : (D.asked i != 0) = true := by simpa using ha
  clear ha h hok
  go_enter Try.func48, Try.ntmps48
  go_wp2_with (go_at_call 65; refine HA.out.mono ?_; rintro e w' ⟨rfl, rfl⟩; dsimp only)
  go_ret2
  exact ⟨rfl, rfl⟩

set_option maxRecDepth 20000 in
set_option maxHeartbeats 1000000 in
theorem Read_any (wb w : World) (R : HP) (g : Nat) (D : Dev) (ka : Option Addr) (kn kc : Nat) (h : Mem wb w (dev0 T8 g D ka kn kc * R)) (hok : D.ok) (hpl : D.pend.length ≤ 1000000000) (j : Nat) (hj : j < D.n) (hd0 : D.down = false) :
    Calls Try.prog 48 #[.pointer (some ⟨g, 0, none⟩), .int .i64 (j : Int)] w fun e w' => ∃ a c, e = .returned (.tuple #[.slice a 512 c, .int .i64 0]) ∧ Mem wb w' (row 5 1 a 512 c (byts (D.last j)) * (dev0 T8 g D ka kn kc * R)) := by
  have hN : D.n ≤ 4096 := by obtain ⟨n, a, b, c⟩ := hok.img; unfold Dev.n; omega
  have ha : D.asked j = 0 := by
    unfold Dev.asked
    rw [hd0, if_neg (by simp), if_neg (by omega)]
  have HA := hid (asked_any wb w _ g D ka _ kc h hok j (by omega) (by omega))
  rw [ha] at HA
  have hjs := hok.sector hj
  have H := hid h
  have HOK := hid hok
  obtain ⟨ia, ic, pa, pc, hm⟩ := Mem.dev0.1 h
  obtain ⟨ni, hni, hn1, hn2⟩ := hok.img
  have hil : D.img.length ≤ 2097152 := by omega
  obtain ⟨gi, -, rfl, -, i1, i2, -⟩ := hm.p1.row_at (by omega)
  have HSE := hid (sector_any wb w _ g D gi pa ka ic pc kn kc hm hil i1 i2 j hjs)
  have hsec : Hid (Sl w (some ⟨gi, j * 512, none⟩) 512 (ic - j * 512) (byts (sec D.img j))) := by
    have h1 := hm.p1.row_sl.cut2 (j * 512) (j * 512 + 512) (some ⟨gi, j * 512, none⟩) 512 (ic - j * 512) (by omega) hjs (by rw [if_neg (by omega)]; simp [Addr.add_lit]) (by omega) rfl
    rw [byts_take, byts_drop] at h1
    have e : (D.img.take (j * 512 + 512)).drop (j * 512) = sec D.img j := by rw [List.drop_take]; simp [sec]
    rw [e] at h1
    exact h1
  have c1 := (dev_cells hm).2.1
  obtain ⟨zs, hz, hp⟩ := Mem.pends.1 hm.p2
  have HP := hid hp
  have HZ := hid hz
  have hzl : zs.length = D.pend.length := by rw [← hz]; simp
  have HZL := hid hzl
  have HJ : Hid (D.last j = lastOf j (sec D.img j) D.pend) := rfl
  clear h hok hm hni hn1 hn2 hd0 ha hp hz hzl
  generalize hnl : D.pend.length = n at *
  have HN := hid hnl
  clear hnl
  obtain ⟨Z, hZ⟩ : ∃ Z, Z = List.replicate 512 (Value.int .u8 0) := ⟨_, rfl⟩
  have hmk := run_make_bytes (P := Try.prog) 37 5 Try.underlying37 u8info .i64 .i64 512 (by omega) (by omega)
  have e5 : Int.toNat 512 = 512 := rfl
  rw [e5, ← hZ] at hmk
  have HZl : Hid (Z.length = 512) := by show _ = _; rw [hZ]; simp
  have HZR := hid hZ
  clear e5 hZ
  go_enter Try.func48, Try.ntmps48
  go_wp2_with (first | (go_at_call 65; refine HA.out.mono ?_; rintro e w' ⟨rfl, rfl⟩; dsimp only) | (go_at_call 61; refine HSE.out.mono ?_; rintro e w' ⟨rfl, rfl⟩; dsimp only))
  go_loopw [7, 25] (fun s i wr => ∃ (k : Nat) (fa : Option Addr) (fc : Nat), k ≤ n ∧ i = .int .i64 k ∧ s = .slice fa 512 fc ∧ Sl wr fa 512 fc (byts (lastOf j (sec D.img j) (D.pend.take k))) ∧ Fr w.heap.size [] w wr) (fun _ i _ => n - (intOf i).toNat)
  case atStart => exact ⟨0, _, _, by omega, rfl, rfl, hsec.out, Fr.refl _ _ _⟩
  case round =>
    obtain ⟨k, fa, fc, hk, rfl, rfl, hs, hf⟩ := hrel
    by_cases hlt : k < n
    · have hm := HP.out.fr hf
      obtain ⟨gp, rest, rfl, r1, r2, r3, r4, hmp⟩ := hm.row_at (by omega)
      obtain ⟨z, hz⟩ : ∃ z, zs[k]? = some z := ⟨zs[k]'(by rw [HZL.out]; exact hlt), List.getElem?_eq_getElem _⟩
      have hpk := pz_cells zs k z hz
      have hp0 := hmp.cell (k * 2)
      have hp1 := hmp.cell (k * 2 + 1)
      rw [List.getElem?_append_left (by rw [r1]; omega)] at hp0 hp1
      rw [hpk.1] at hp0
      rw [hpk.2] at hp1
      have HZK := hid hz
      have hpz : D.pend[k]? = some z.1 := by rw [← HZ.out, List.getElem?_map, hz]; rfl
      have hzo := HOK.out.pend z.1 (List.mem_of_getElem? hpz)
      obtain ⟨zs1, zs2⟩ := hzo
      have HNX := hid (lastOf_take j (sec D.img j) D.pend k z.1 hpz)
      have ZL := hid zs2
      rw [zs2] at hp1
      obtain ⟨⟨si, bs⟩, ba, bc⟩ := z
      simp only at hp0 hp1 zs1 zs2 HNX
      obtain ⟨Az, hmz⟩ := Mem.pz hm.right HZK.out
      have hsz := hmz.row_sl
      simp only at hsz
      rw [ZL.out] at hsz
      have HSZ := hid hsz
      have HS := hid hs
      have HF := hid hf
      clear hpk hz hpz hmp hm r1 r4 zs2 hsz hmz hs hf
      by_cases hsi : si = j
      · have hb : ((si : Int) == (j : Int)) = true := by simp; omega
        rw [if_pos hsi] at HNX
        clear hsi
        go_wp2_with fail
        go_roundw
        case rel => exact ⟨k + 1, ba, bc, by omega, by go_num, rfl, by rw [HNX.out]; exact HSZ.out.ext (by repeat (first | exact Fr.refl _ _ _ | assumption | apply Fr.drew | (refine Fr.drewN ?_ _) | (refine Fr.alloc ?_ (by first | omega | (simp; done) | (simp; omega)) _) | (refine Fr.setCell ?_ (by first | (left; simp; done) | (right; simp; done) | (right; simp; omega)) _))), HF.out.alloc HF.out.size _⟩
        case measure => simp [intOf] <;> omega
      · have hb : ((si : Int) == (j : Int)) = false := by simp; omega
        rw [if_neg hsi] at HNX
        clear hsi
        go_wp2_with fail
        go_roundw
        case rel => exact ⟨k + 1, fa, fc, by omega, by go_num, rfl, by rw [HNX.out]; exact HS.out.ext (by repeat (first | exact Fr.refl _ _ _ | assumption | apply Fr.drew | (refine Fr.drewN ?_ _) | (refine Fr.alloc ?_ (by first | omega | (simp; done) | (simp; omega)) _) | (refine Fr.setCell ?_ (by first | (left; simp; done) | (right; simp; done) | (right; simp; omega)) _))), HF.out.alloc HF.out.size _⟩
        case measure => simp [intOf] <;> omega
    · obtain rfl : k = n := by omega
      rw [List.take_of_length_le (by rw [HN.out]; exact Nat.le_refl _)] at hs
      have hme := hid ((H.out.fr hf).alloc Z 5)
      have HS := hid hs
      clear hs hf
      go_wp2_with ((with_reducible show wpList _ _ _ (Oper.mk (some 39) _ _ _ _ _ :: _) _ _); refine wpList_copy (by rfl) (.tmp 37) (.tmp 38) 37 37 (by rfl) Try.underlying37 u8size (by rfl) (by rfl) hme.out (by rfl) 0 512 (by rfl) (fun _ => rfl) (by rw [HZl.out]; exact Nat.le_refl _) (HS.out.ext (by repeat (first | exact Fr.refl _ _ _ | assumption | apply Fr.drew | (refine Fr.drewN ?_ _) | (refine Fr.alloc ?_ (by first | omega | (simp; done) | (simp; omega)) _) | (refine Fr.setCell ?_ (by first | (left; simp; done) | (right; simp; done) | (right; simp; omega)) _)))) (byts_oneCell _) ?_; intro w2 hm2)
      go_ret2
      refine ⟨_, 512, rfl, ?_⟩
      have hl := HS.out.len
      rw [HJ.out]
      generalize lastOf j (sec D.img j) D.pend = q at *
      have e : splice Z 0 ((byts q).take 512) = byts q := by rw [HZR.out]; simp [splice, ← hl]
      rw [e] at hm2
      exact Mem.of_row (rest := []) rfl (by omega) (Nat.le_refl _) (by omega) (by simp; omega) (by simpa using hm2)
end Go.Proofs.Ytpaebopmppbjbaa
