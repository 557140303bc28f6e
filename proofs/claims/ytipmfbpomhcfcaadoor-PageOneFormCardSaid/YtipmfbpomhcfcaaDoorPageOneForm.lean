/- The walk of the law PageOneForm: whatever bytes are taken are what writes again what stands in them. -/
import Derived.Test.YtipmfbpomhcfcaaDoorPgLaw
namespace Go.Proofs.YtipmfbpomhcfcaaDoor
open Go Go.RowKit Go.Le

set_option maxRecDepth 100000 in
set_option maxHeartbeats 4000000 in
theorem PageOneForm_walk (number : Int) (a : Option Addr) (m c : Nat) (l : List UInt8) (w : World) (ht : Tabled w) (h : Sl w a m c (byts l)) :
    Calls Tryd.prog 6 #[.slice a m c, .int .i64 number] w fun e w' => e = .returned (.bool true) ∧ Fr w.heap.size [] w w' := by
  have hle := h.le
  have hcap := h.cap
  have HT := hid ht
  have H := hid h
  obtain ⟨Z, hZ⟩ : ∃ Z, Z = (List.replicate 1024 (Value.int .u8 0)).toArray := ⟨_, rfl⟩
  have hmk : ∀ W : World, (Instr.makeSlice 22 (.int .i64 1024) (.int .i64 1024)).run Tryd.prog W = .ok (.slice (some ⟨W.heap.size, 0, none⟩) 1024 1024) (W.alloc (.cells Z 5)) :=
    fun W => by rw [hZ]; exact run_make_bytes (P := Tryd.prog) 22 5 Tryd.underlying22 infoU8 .i64 .i64 1024 (by omega) (by omega) W
  have HZ : Hid (Z = (byts (List.replicate 1024 0)).toArray) := by show _ = _; rw [hZ, byts_replicate]
  clear hZ
  clear ht h
  have HB : Hid (∀ asked : Int, opErr asked (List.replicate 1024 0) = 100) := blank_mark
  go_enter Tryd.func6, Tryd.ntmps6
  go_wp2_with (go_at_call 15; refine (lawMade_any _ _ none 0 0 [] _ HT.out (Sl.nil' _) (by omega) (by omega) (by omega) (by omega)).mono ?_; rintro e w1 ⟨a1, c1, rfl, how1, hf1⟩)
  have HT1 := hid (HT.out.ext hf1)
  have S1 := hid (H.out.ext hf1)
  refine (Open_any number _ _ _ l _ HT1.out S1.out).mono ?_
  rintro e w2 ⟨a2, k2, c2', rfl, how2, hf2⟩
  have hf2' : Fr w.heap.size [] w w2 := Fr.call' (k := hf2) (h := (by repeat (first | exact Fr.refl _ _ _ | assumption | apply Fr.drew | (refine Fr.drewN ?_ _) | (refine Fr.alloc ?_ (by first | omega | (simp; done) | (simp; omega)) _) | (refine Fr.setCell ?_ (by first | (left; simp; done) | (right; simp; done) | (right; simp; omega)) _)))) (hS := by simp <;> omega)
  have HT2 := hid (HT.out.ext hf2')
  have S2 := hid (H.out.ext hf2')
  dsimp only
  go_wp2_with fail
  refine (OpenHead_any _ _ _ l _ HT2.out S2.out).mono ?_
  rintro e w3 ⟨rfl, hf3⟩
  have hf3' : Fr w.heap.size [] w w3 := Fr.call' (k := hf3) (h := (by repeat (first | exact Fr.refl _ _ _ | assumption | apply Fr.drew | (refine Fr.drewN ?_ _) | (refine Fr.alloc ?_ (by first | omega | (simp; done) | (simp; omega)) _) | (refine Fr.setCell ?_ (by first | (left; simp; done) | (right; simp; done) | (right; simp; omega)) _)))) (hS := by simp <;> omega)
  have HT3 := hid (HT.out.ext hf3')
  have S3 := hid (H.out.ext hf3')
  have C3 := hid (how2.sl.ext hf3)
  clear hf1 hf2 hf2' hf3 how1
  have ways : (opErr number l = 0 ∧ ohErr l = 103 ∧ mkErr number (opCount number l) (opCont number l).length = 0 ∧ mkPage number (opCount number l) (opCont number l) = l) ∨
      (opErr number l ≠ 0 ∧ ohErr l = 0 ∧ mayB (num (sub l 16 18)) (num (sub l 18 20)) (num (sub l 20 24)) = true ∧ hdPage (num (sub l 16 18)) (num (sub l 18 20)) (num (sub l 20 24)) = l) ∨ (opErr number l ≠ 0 ∧ ohErr l ≠ 0) := by
    by_cases h1 : opErr number l = 0
    · obtain ⟨g1, g2, g3⟩ := open_again h1
      exact .inl ⟨h1, g3, g1, by rw [mkPage, if_pos g1, Int.toNat_natCast]; exact g2⟩
    · by_cases h2 : ohErr l = 0
      · obtain ⟨g1, g2⟩ := head_again h2
        exact .inr (.inl ⟨h1, h2, g1, by rw [hdPage, if_pos g1, Int.toNat_natCast, Int.toNat_natCast, Int.toNat_natCast]; exact g2⟩)
      · exact .inr (.inr ⟨h1, h2⟩)
  rcases ways with ⟨w1', w2', w3', w4'⟩ | ⟨w1', w2', w3', w4'⟩ | ⟨w1', w2'⟩
  · rw [w1', w2']
    have W3 := hid w3'
    have W4 := hid w4'
    clear w1' w2' w3' w4'
    generalize ohOut l (num (sub l 16 18)) = y1
    generalize ohOut l (num (sub l 18 20)) = y2
    generalize ohOut l (num (sub l 20 24)) = y3
    dsimp only
    go_wp2_with fail
    refine (Make_any _ _ _ _ _ (opCont number l) _ HT3.out C3.out).mono ?_
    rintro e w4 ⟨a4, k4, c4, rfl, how4, hf4⟩
    rw [W3.out]
    rw [W4.out] at how4
    have S4 := hid (S3.out.ext hf4)
    have C4 := hid how4.sl
    have hf4' : Fr w.heap.size [] w w4 := Fr.call' (k := hf4) (h := (by repeat (first | exact Fr.refl _ _ _ | assumption | apply Fr.drew | (refine Fr.drewN ?_ _) | (refine Fr.alloc ?_ (by first | omega | (simp; done) | (simp; omega)) _) | (refine Fr.setCell ?_ (by first | (left; simp; done) | (right; simp; done) | (right; simp; omega)) _)))) (hS := by simp <;> omega)
    have hrefl : (l == l) = true := by simp
    have HR := hid hrefl
    clear hrefl
    dsimp only
    go_wp2_with fail
    refine (Eq_any _ _ _ _ _ _ l l _ C4.out S4.out).mono ?_
    rintro e w' ⟨rfl, rfl⟩
    rw [HR.out]
    dsimp only
    go_wp2_with fail
    refine (Open_any number _ _ _ (List.replicate 1024 0) _ (HT.out.ext (by exact Fr.call (k := (Fr.refl w4.heap.size [] w4).alloc (Nat.le_refl _) _) (h := hf4') (hB := hf4'.size) (hS := by simp))) (by rw [HZ.out]; exact Blk.sl_all (cs := byts (List.replicate 1024 0)) (Blk.new' _ _ rfl) 1024 (by rw [byts_length, List.length_replicate]) (by omega))).mono ?_
    rintro e w9 ⟨a9, k9, c9, rfl, how9, hf9⟩
    have hf8 : Fr w.heap.size [] w (w4.alloc (.cells Z 5)) := Fr.call (k := (Fr.refl w4.heap.size [] w4).alloc (Nat.le_refl _) _) (h := hf4') (hB := hf4'.size) (hS := by simp)
    have hf9' : Fr w.heap.size [] w w9 := Fr.call' (k := hf9) (h := hf8) (hS := by simp)
    rw [HB.out]
    generalize opCount number (List.replicate 1024 0) = x9
    dsimp only
    go_wp2
    go_ret
    exact ⟨rfl, hf9'⟩
  · have b1 : (opErr number l == 0) = false := by simpa using w1'
    rw [w2']
    have W3 := hid w3'
    have W4 := hid w4'
    have O1 : Hid (∀ x, ohOut l x = x) := fun x => by rw [ohOut, if_pos w2']
    clear w1' w2' w3' w4'
    generalize opCount number l = x1
    generalize opErr number l = x2 at *
    rw [O1.out, O1.out, O1.out]
    dsimp only
    go_wp2_with fail
    refine (Head_any _ _ _ _ HT3.out).mono ?_
    rintro e w4 ⟨a4, k4, c4, rfl, how4, hf4⟩
    rw [W3.out, if_pos rfl]
    rw [W4.out] at how4
    have S4 := hid (S3.out.ext hf4)
    have C4 := hid how4.sl
    have hf4' : Fr w.heap.size [] w w4 := Fr.call' (k := hf4) (h := (by repeat (first | exact Fr.refl _ _ _ | assumption | apply Fr.drew | (refine Fr.drewN ?_ _) | (refine Fr.alloc ?_ (by first | omega | (simp; done) | (simp; omega)) _) | (refine Fr.setCell ?_ (by first | (left; simp; done) | (right; simp; done) | (right; simp; omega)) _)))) (hS := by simp <;> omega)
    have hrefl : (l == l) = true := by simp
    have HR := hid hrefl
    clear hrefl
    dsimp only
    go_wp2_with fail
    refine (Eq_any _ _ _ _ _ _ l l _ C4.out S4.out).mono ?_
    rintro e w' ⟨rfl, rfl⟩
    rw [HR.out]
    dsimp only
    go_wp2_with fail
    refine (Open_any number _ _ _ (List.replicate 1024 0) _ (HT.out.ext (by exact Fr.call (k := (Fr.refl w4.heap.size [] w4).alloc (Nat.le_refl _) _) (h := hf4') (hB := hf4'.size) (hS := by simp))) (by rw [HZ.out]; exact Blk.sl_all (cs := byts (List.replicate 1024 0)) (Blk.new' _ _ rfl) 1024 (by rw [byts_length, List.length_replicate]) (by omega))).mono ?_
    rintro e w9 ⟨a9, k9, c9, rfl, how9, hf9⟩
    have hf8 : Fr w.heap.size [] w (w4.alloc (.cells Z 5)) := Fr.call (k := (Fr.refl w4.heap.size [] w4).alloc (Nat.le_refl _) _) (h := hf4') (hB := hf4'.size) (hS := by simp)
    have hf9' : Fr w.heap.size [] w w9 := Fr.call' (k := hf9) (h := hf8) (hS := by simp)
    rw [HB.out]
    generalize opCount number (List.replicate 1024 0) = x9
    dsimp only
    go_wp2
    go_ret
    exact ⟨rfl, hf9'⟩
  · have b1 : (opErr number l == 0) = false := by simpa using w1'
    have b2 : (ohErr l == 0) = false := by simpa using w2'
    clear w1' w2'
    generalize opCount number l = x1
    generalize opErr number l = x2 at *
    generalize ohOut l (num (sub l 16 18)) = y1
    generalize ohOut l (num (sub l 18 20)) = y2
    generalize ohOut l (num (sub l 20 24)) = y3
    generalize ohErr l = y4 at *
    dsimp only
    go_wp2_with fail
    refine (Open_any number _ _ _ (List.replicate 1024 0) _ (HT.out.ext (by exact Fr.call (k := (Fr.refl w3.heap.size [] w3).alloc (Nat.le_refl _) _) (h := hf3') (hB := hf3'.size) (hS := by simp))) (by rw [HZ.out]; exact Blk.sl_all (cs := byts (List.replicate 1024 0)) (Blk.new' _ _ rfl) 1024 (by rw [byts_length, List.length_replicate]) (by omega))).mono ?_
    rintro e w9 ⟨a9, k9, c9, rfl, how9, hf9⟩
    have hf8 : Fr w.heap.size [] w (w3.alloc (.cells Z 5)) := Fr.call (k := (Fr.refl w3.heap.size [] w3).alloc (Nat.le_refl _) _) (h := hf3') (hB := hf3'.size) (hS := by simp)
    have hf9' : Fr w.heap.size [] w w9 := Fr.call' (k := hf9) (h := hf8) (hS := by simp)
    rw [HB.out]
    generalize opCount number (List.replicate 1024 0) = x9
    dsimp only
    go_wp2
    go_ret
    exact ⟨rfl, hf9'⟩
end Go.Proofs.YtipmfbpomhcfcaaDoor
