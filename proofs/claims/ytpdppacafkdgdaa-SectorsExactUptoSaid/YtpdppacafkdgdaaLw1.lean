/- The laws' own small functions: pick, sector, bit. -/
import Derived.Test.YtpdppacafkdgdaaSec1M
set_option linter.unusedVariables false
set_option linter.unusedSimpArgs false
namespace Go.Le
open Go Go.RowKit
/-- a sector full of a byte, begun with others -/
def secFill (x : UInt8) (b : List UInt8) : List UInt8 := b.take 512 ++ List.replicate (512 - b.length) x
theorem secFill_length (x : UInt8) (b : List UInt8) : (secFill x b).length = 512 := by simp [secFill]; omega
theorem secFill_at (x : UInt8) (b : List UInt8) (k : Nat) (hk : k < 512) : (secFill x b)[k]? = some (if h : k < b.length then b[k] else x) := by
  unfold secFill
  by_cases h : k < b.length
  · rw [dif_pos h, List.getElem?_append_left (by simp; omega), List.getElem?_take, if_pos hk, List.getElem?_eq_getElem h]
  · rw [dif_neg h, List.getElem?_append_right (by simp; omega), List.getElem?_replicate, if_pos (by simp; omega)]
theorem take_set_next {α : Type} (cs ds : List α) (k : Nat) (v : α) (h : k < cs.length) (ht : cs.take k = ds.take k) (hv : ds[k]? = some v) : (cs.set k v).take (k + 1) = ds.take (k + 1) := by
  obtain ⟨h1, h2⟩ := List.getElem?_eq_some_iff.1 hv
  rw [List.take_succ_eq_append_getElem (by simpa using h), List.take_succ_eq_append_getElem h1, List.take_set_of_le (Nat.le_refl k), ht]
  simp [h2]
theorem set_set_same {α : Type} (cs : List α) (k : Nat) (u v : α) : (cs.set k u).set k v = cs.set k v := by simp
end Go.Le
namespace Go.Proofs.Ytpdppacafkdgdaa
open Go Go.RowKit Go.Le

set_option maxRecDepth 20000 in
set_option maxHeartbeats 1000000 in
theorem lawSector_any (wb w : World) (R : HP) (h : Mem wb w R) (x : UInt8) (a : Option Addr) (n c : Nat) (b : List UInt8) (hs : Sl w a n c (byts b)) :
    Calls Try.prog 13 #[.int .u8 (x.toNat : Int), .slice a n c] w fun e w' => ∃ g, e = .returned (.slice (some ⟨g, 0, none⟩) 512 512) ∧ w.heap.size ≤ g ∧ Mem wb w' (row 5 1 (some ⟨g, 0, none⟩) 512 512 (byts (secFill x b)) * R) ∧ Fr w.heap.size [] w w' := by
  have hle := hs.le
  have hcp := hs.cap
  have hln := hs.len
  rw [byts_length] at hln
  have HLN := hid hln
  have hx := x.toNat_lt
  obtain ⟨Z, hZ⟩ : ∃ Z, Z = List.replicate 512 (Value.int .u8 0) := ⟨_, rfl⟩
  have hmk := run_make_bytes (P := Try.prog) 34 5 Try.underlying34 u8info .i64 .i64 512 (by omega) (by omega)
  have e5 : Int.toNat 512 = 512 := rfl
  rw [e5, ← hZ] at hmk
  have HZl : Hid (Z.length = 512) := by show _ = _; rw [hZ, List.length_replicate]
  have H1 := hid (h.alloc Z 5)
  have HS := hid hs
  clear hZ e5 hln h hs
  go_enter Try.func13, Try.ntmps13
  go_wp2_with fail
  go_loopw [6] (fun i wr => ∃ (k : Nat) (cs : List Value), k ≤ 512 ∧ i = .int .i64 k ∧ cs.length = 512 ∧ cs.take k = (byts (secFill x b)).take k ∧ Mem wb wr (pts w.heap.size 5 cs * R) ∧ Fr w.heap.size [] w wr) (fun i _ => 512 - (intOf i).toNat)
  case atStart => exact ⟨0, Z, by omega, rfl, HZl.out, rfl, H1.out, (by repeat (first | exact Fr.refl _ _ _ | assumption | apply Fr.drew | (refine Fr.drewN ?_ _) | (refine Fr.alloc ?_ (by first | omega | (simp; done) | (simp; omega)) _) | (refine Fr.setCell ?_ (by first | (left; simp; done) | (right; simp; done) | (right; simp; omega)) _)))⟩
  case round =>
    obtain ⟨k, cs, hk, rfl, hc, ht, hm, hf⟩ := hrel
    have HC := hid hc
    have HT := hid ht
    clear hc ht
    by_cases hlt : k < 512
    · have hcell := hm.cell k
      have hfr := hm.frozen k (by rw [HC.out]; exact hlt)
      rw [List.getElem?_eq_getElem (by rw [HC.out]; exact hlt)] at hcell
      generalize cs[k]'_ = u at hcell
      have hat := secFill_at x b k hlt
      by_cases hkn : k < n
      · obtain ⟨b1, o1, rfl⟩ := HS.out.addr (by omega)
        have hb := (HS.out.ext hf).at k hkn
        have hbl : b1 < w.heap.size := by have := World.block_lt_of_cell? w _ (HS.out.at k hkn); simpa using this
        simp only [byts, List.getElem_map, byt] at hb
        rw [dif_pos (by rw [HLN.out]; exact hkn)] at hat
        generalize hz : b[k]'_ = z at *
        have hz8 := z.toNat_lt
        have hb' : (wr.setCell ⟨w.heap.size, k, none⟩ (.int .u8 (x.toNat : Int))).cell? ⟨b1, o1 + k, none⟩ = some (.int .u8 (z.toNat : Int)) := by
          rw [World.cell?_setCell_other _ _ _ _ (by intro h; simp only [Addr.mk.injEq] at h; omega)]; exact hb
        have HAT := hid hat
        have hm1 := hm.setCell k (.int .u8 (x.toNat : Int))
        have hc1 := hm1.cell k
        have hf1 := hm1.frozen k (by rw [List.length_set, HC.out]; exact hlt)
        rw [List.getElem?_set_self (by rw [HC.out]; exact hlt)] at hc1
        have HM := hid (hm1.setCell k (.int .u8 (z.toNat : Int)))
        have HF := hid hf
        clear hm hm1 hat hz hf
        go_wp2_with fail
        go_roundw
        case rel => exact ⟨k + 1, (cs.set k (.int .u8 (x.toNat : Int))).set k (.int .u8 (z.toNat : Int)), by omega, by go_num, by simpa using HC.out, by rw [set_set_same]; exact take_set_next cs _ k _ (by rw [HC.out]; exact hlt) HT.out (by simp [byts, HAT.out]; rfl), HM.out, (HF.out.setCell (.inr (by simp)) _).setCell (.inr (by simp)) _⟩
        case measure => simp [intOf] <;> omega
      · rw [dif_neg (by rw [HLN.out]; exact hkn)] at hat
        have HAT := hid hat
        have HM := hid (hm.setCell k (.int .u8 (x.toNat : Int)))
        have HF := hid hf
        clear hm hat hf
        go_wp2_with fail
        go_roundw
        case rel => exact ⟨k + 1, cs.set k (.int .u8 (x.toNat : Int)), by omega, by go_num, by simpa using HC.out, take_set_next cs _ k _ (by rw [HC.out]; exact hlt) HT.out (by simp [byts, HAT.out]; rfl), HM.out, HF.out.setCell (.inr (by simp)) _⟩
        case measure => simp [intOf] <;> omega
    · obtain rfl : k = 512 := by omega
      have hcs : cs = byts (secFill x b) := by
        have := HT.out
        rwa [List.take_of_length_le (by rw [HC.out]; exact Nat.le_refl _), List.take_of_length_le (by rw [byts_length, secFill_length]; exact Nat.le_refl _)] at this
      subst hcs
      have HF := hid hf
      clear hf
      go_wp2_with fail
      go_ret
      exact ⟨_, rfl, Nat.le_refl _, Mem.of_row (rest := []) rfl (by rw [byts_length, secFill_length]) (Nat.le_refl _) (by omega) (by rw [byts_length, secFill_length]; simp) (by simpa using hm), HF.out⟩
end Go.Proofs.Ytpdppacafkdgdaa
