/- The walks of wal's falls, marked. -/
import Derived.Test.YtpaebopmppbjbaaWal3
set_option linter.unusedVariables false
set_option linter.unusedSimpArgs false
namespace Go.Le
open Go Go.RowKit
theorem byts_set (l : List UInt8) (k : Nat) (x : UInt8) : (byts l).set k (.int .u8 (x.toNat : Int)) = byts (l.set k x) := by simp [byts, byt, List.map_set]
/-- a row written into, folded again -/
theorem Mem.row_set {wb w : World} {R : HP} {u : TypeId} {g n c k : Nat} {l : List UInt8} {rest : List Value} (x : UInt8) (h : Mem wb w (pts g u (byts l ++ rest) * R)) (hk : k < l.length) (hn : l.length = n) (hc : n ≤ c) (hc2 : c ≤ 9223372036854775807) (hr : c * 1 ≤ (byts l).length + rest.length) :
    Mem wb (w.setCell ⟨g, k, none⟩ (.int .u8 (x.toNat : Int))) (row u 1 (some ⟨g, 0, none⟩) n c (byts (l.set k x)) * R) := by
  have h1 := h.setCell k (.int .u8 (x.toNat : Int))
  rw [List.set_append_left _ _ (by rw [byts_length]; exact hk), byts_set] at h1
  exact Mem.of_row rfl (by rw [byts_length, List.length_set]; omega) hc hc2 (by rw [byts_length, List.length_set]; rw [byts_length] at hr; omega) h1
end Go.Le
namespace Go.Proofs.Ytpaebopmppbjbaa
open Go Go.RowKit Go.Le

set_option maxRecDepth 20000 in
set_option maxHeartbeats 2000000 in
theorem falls_any (wb w : World) (R : HP) (g : Nat) (D : Dev) (a : Option Addr) (c : Nat) (m : List UInt8) (hml : m.length = 512) (h : Mem wb w (devAt T8 g D * (row 5 1 a 512 c (byts m) * R))) (hpl : D.pend.length ≤ 900000000) (p : Int) :
    Calls Try.prog 26 #[.agg #[.pointer (some ⟨g, 0, none⟩), .int .i64 p], .slice a 512 c] w (IoSays wb g (row 5 1 a 512 c (byts (m.set 511 0)) * R) (ioFalls m D) unitB) := by
  have hbx := h.alloc [.pointer (some ⟨g, 0, none⟩), .int .i64 p] 54
  obtain ⟨gm, rest, rfl, r1, r2, r3, r4, hm⟩ := hbx.p2.row_at (by omega)
  have hc1 := hm.cell 511
  have hf1 := hm.frozen 511
  rw [List.getElem?_append_left (by rw [byts_length]; omega), List.getElem?_eq_getElem (by rw [byts_length]; omega)] at hc1
  have hm2 := Mem.row_set (k := 511) (n := 512) 0 hm (by omega) hml r2 r3 r4
  have hm3 := hm2.eq (by ac_rfl : _ = devAt T8 g D * (pts w.heap.size 54 [.pointer (some ⟨g, 0, none⟩), .int .i64 p] * (row 5 1 (some ⟨gm, 0, none⟩) 512 c (byts (m.set 511 0)) * R)))
  rw [show ((0 : UInt8).toNat : Int) = 0 from rfl] at hm2 hm3
  have hq := hm3.right
  have q0 := hq.cell 0
  have q1 := hq.cell 1
  simp only [List.getElem?_cons_zero, List.getElem?_cons_succ] at q0 q1
  have HW := hid (dwrite_any wb _ _ g D hm3 (by omega) 0 (by omega) p _ 512 c _ hm2.row_sl)
  have HBX : Hid (∀ w' R', Mem wb w' (pts w.heap.size 54 [.pointer (some ⟨g, 0, none⟩), .int .i64 p] * R') → w'.cell? ⟨w.heap.size, 0, none⟩ = some (.pointer (some ⟨g, 0, none⟩)) ∧ w'.cell? ⟨w.heap.size, 1, none⟩ = some (.int .i64 p)) := fun w' R' h => ⟨h.cell 0, h.cell 1⟩
  obtain ⟨x, hx⟩ : ∃ x, (byts m)[511]'(by rw [byts_length]; omega) = x := ⟨_, rfl⟩
  rw [hx] at hc1
  obtain ⟨r1', HR1⟩ : ∃ r, Hid (ioWrite 0 (m.set 511 0) D = r) := ⟨_, hid rfl⟩
  have HG : Hid (r1'.2.pend.length ≤ D.pend.length + 1) := by rw [← HR1.out]; exact hid (Io.Grows.write 0 _ D)
  rw [HR1.out] at HW
  have HHB := hid hbx
  have hm511 : ¬ (512 : Int) ≤ 511 := by omega
  clear h hbx hm hm2 hm3 hq hx r1 r4
  rcases r1' with ⟨e1 | u1, D1⟩
  · have HI : Hid (ioFalls m D = (.error e1, D1)) := hid (Io.and_error HR1.out)
    clear HR1 HG
    go_enter Try.func26, Try.ntmps26
    go_wp2_with fail
    refine HW.out.mono ?_
    intro e w2 hs
    obtain ⟨rfl, hc, hm⟩ := hs.error rfl
    dsimp only
    exact ⟨rfl, IoSays.mkError HI.out hc hm.p1.right⟩
  · have HB : Hid (ioFalls m D = ioFlush D1) := hid (Io.and_ok HR1.out)
    clear HR1
    go_enter Try.func26, Try.ntmps26
    go_wp2_with fail
    refine HW.out.mono ?_
    intro e w2 hs
    obtain ⟨rfl, hm⟩ := hs.unit rfl
    dsimp only
    have hbx2 := hm.p1
    obtain ⟨q0, q1⟩ := HBX.out w2 _ hbx2
    have HF := hid (dflush_any wb w2 _ g D1 hbx2.p1 (by have := HG.out; first | omega | (simp only at this; omega)) p)
    obtain ⟨r2', HR2⟩ : ∃ r, Hid (ioFlush D1 = r) := ⟨_, hid rfl⟩
    rw [HR2.out] at HF HB
    clear hm hbx2 HW hs HR2
    go_wp2_with fail
    refine HF.out.mono ?_
    intro e w3 hs
    rcases r2' with ⟨e2 | u2, D2⟩
    · obtain ⟨rfl, hc, hm⟩ := hs.error rfl
      dsimp only
      exact ⟨rfl, IoSays.mkError HB.out hc hm.p1.right⟩
    · obtain ⟨rfl, hm⟩ := hs.unit rfl
      dsimp only
      have HM := hid hm.p1.right
      clear hm hs
      go_wp2_with fail
      go_end0
      exact IoSays.mkUnit HB.out HM.out
end Go.Proofs.Ytpaebopmppbjbaa
