/- The law's plays: one call, held against the document's. -/
import Derived.Test.YtipmfbpomhcfcaaDoorNote
namespace Go.Le
open Go Go.RowKit
theorem Sl.fr0 {w w' : World} {a : Option Addr} {n c : Nat} {xs : List Value} (h : Sl w a n c xs) {B : Nat} {S : List Nat} (hf : Fr B S w w') (hb : 0 < n → ∀ p, a = some p → p.block < B ∧ p.block ∉ S) : Sl w' a n c xs :=
  ⟨h.len, h.le, h.cap, h.nil, h.spot, fun i hi p hp => by
    have := hb (by omega) p hp
    rw [hf.cell (p := ⟨p.block, p.off + i, none⟩) this.1 this.2]
    exact h.cell i hi p hp⟩
theorem Sl.lt {w : World} {a : Option Addr} {n c : Nat} {xs : List Value} (h : Sl w a n c xs) (h0 : 0 < n) : ∀ p, a = some p → p.block < w.heap.size := fun p hp => by
  have hc := h.cell 0 h0 p hp
  rw [List.getElem?_eq_getElem (by rw [h.len]; exact h0)] at hc
  exact World.block_lt_of_cell? w ⟨p.block, p.off + 0, none⟩ hc
theorem Blk.five {w : World} {g : Nat} {e : TypeId} {v0 v1 v2 v3 v4 : Value} (h : Blk w g e [v0, v1, v2, v3, v4]) :
    w.cell? ⟨g, 0, none⟩ = some v0 ∧ w.cell? ⟨g, 1, none⟩ = some v1 ∧ w.cell? ⟨g, 2, none⟩ = some v2 ∧ w.cell? ⟨g, 3, none⟩ = some v3 ∧ w.cell? ⟨g, 4, none⟩ = some v4 :=
  ⟨h.cell 0, h.cell 1, h.cell 2, h.cell 3, h.cell 4⟩
end Go.Le
namespace Go.Proofs.YtipmfbpomhcfcaaDoor
open Go Go.RowKit Go.Le
theorem Tabled.fr {w w' : World} (h : Tabled w) {B : Nat} {S : List Nat} (hf : Fr B S w w') (hB : 1 ≤ B) (hS : ∀ x ∈ S, 1 ≤ x) : Tabled w' := fun i hi => by
  rw [hf.cell (by exact hB) (fun hm => by have := hS _ hm; simp at this)]; exact h i hi
theorem mkPage_le (number count : Int) (l : List UInt8) : (mkPage number count l).length ≤ 1024 := by
  unfold mkPage
  by_cases h : mkErr number count l.length = 0
  · rw [if_pos h, pgMade_length]
    · exact Nat.le_refl _
    · unfold mkErr at h
      split at h
      · omega
      · split at h
        · omega
        · split at h <;> omega
  · rw [if_neg h]; simp
theorem hdPage_le (p u r : Int) : (hdPage p u r).length ≤ 1024 := by
  unfold hdPage
  split
  · rw [pgMade_length _ _ _ _ (by simp [hdBytes, be2, be4])]; exact Nat.le_refl _
  · simp
theorem opCont_le (asked : Int) (l : List UInt8) (hl : l.length ≤ 1048576) : (opCont asked l).length ≤ 1048576 := by
  unfold opCont
  split
  · simp; omega
  · simp


set_option maxRecDepth 100000 in
set_option maxHeartbeats 2000000 in
theorem plays2_any (w : World) (ht : Tabled w) (B H g N : Nat) (hbk : Bk w B H g N) (hN : N ≤ 998) (hH : H ≤ w.heap.size) (hB : 1 ≤ B) (no av cv : Int) (a : Option Addr) (m c : Nat) (l : List UInt8) (h : Sl w a m c (byts l)) (hm : m ≤ 1048576) (HA : Hid (0 < m → ∀ p, a = some p → p.block < w.heap.size ∧ (p.block < B ∨ H ≤ p.block))) :
    Calls Tryd.prog 10 #[.pointer (some ⟨g, 0, none⟩), .agg #[.int .i64 2, .int .i64 no, .int .i64 av, .int .i64 cv, .slice a m c]] w fun e w' => e = .returned (.bool true) ∧ Bk w' B w'.heap.size g (N + 2) ∧ Fr B [] w w' := by
  have hle := h.le
  have hcap := h.cap
  have hlen := h.len
  rw [byts_length] at hlen
  have HL := hid hlen
  clear hlen
  have hBH : Hid (B ≤ g ∧ g < H) := by
    obtain ⟨_, _, _, _, _, _, _, _, _, _, _, h5, h6, _⟩ := hbk.out
    exact ⟨h5, h6⟩
  go_enter Tryd.func10, Tryd.ntmps10
  go_wp2_with fail
  obtain ⟨w0, hw0⟩ : ∃ x, x = w.alloc (.cells #[.int .i64 2, .int .i64 no, .int .i64 av, .int .i64 cv, .slice a m c] 34) := ⟨_, rfl⟩
  rw [← hw0]
  have hbx0 : Blk w0 w.heap.size 34 [.int .i64 2, .int .i64 no, .int .i64 av, .int .i64 cv, .slice a m c] := by rw [hw0]; exact Blk.new _ _ _
  have hf0 : Fr w.heap.size [] w w0 := by rw [hw0]; exact (by repeat (first | exact Fr.refl _ _ _ | assumption | apply Fr.drew | (refine Fr.drewN ?_ _) | (refine Fr.alloc ?_ (by first | omega | (simp; done) | (simp; omega)) _) | (refine Fr.setCell ?_ (by first | (left; simp; done) | (right; simp; done) | (right; simp; omega)) _)))
  have hs0 : w0.heap.size = w.heap.size + 1 := by rw [hw0]; simp
  clear hw0
  refine (Room_any _ _ _ l _ (h.ext hf0) (by omega)).mono ?_
  rintro e w1 ⟨ax, cx, rfl, howx, hf1⟩
  have hf01 : Fr w.heap.size [] w w1 := Fr.call' (k := hf1) (h := hf0) (hS := by simp)
  have hbx1 := hbx0.ext hf1
  have SX0 := howx.sl
  obtain ⟨gx, rx, rfl, hgx, -, -, hcx⟩ := howx.blk (by omega)
  have hgx2 := (howx.lt _ rfl).2.2.2
  simp only at hgx2
  have SX := hid SX0
  have hlx := SX0.le
  have SI := SX0.cut2 0 m (some ⟨gx, 0, none⟩) m cx (by omega) (by omega) (by rw [if_neg (by omega)]; rfl) (by omega) (by omega)
  have ei : ((byts (l ++ m3)).take m).drop 0 = byts l := by rw [List.drop_zero, byts_append, List.take_left' (by rw [byts_length, HL.out])]
  rw [ei] at SI
  obtain ⟨z0, z1, z2, z3, z4⟩ := hbx1.five
  have hT1 := hid (ht.ext hf01)
  have hA1 := hid (h.ext hf01)
  have hSI := hid SI
  have HBX1 := hid hbx1
  have HBK := hid hbk
  have h1 := hf01.size
  clear ei SX0 howx hbx0 hbx1 SI hbk h ht hf0
  dsimp only
  go_wp2_with fail
  refine (Make_any no av _ _ _ l _ hT1.out hSI.out).mono ?_
  rintro e w2 ⟨l1, n1, c1, rfl, how2, hf12⟩
  obtain ⟨z0, z1, z2, z3, z4⟩ := (HBX1.out.ext hf12).five
  dsimp only
  go_wp2_with fail
  refine (refMake_any no av _ _ _ l _ (hT1.out.ext hf12) (hA1.out.ext hf12)).mono ?_
  rintro e w3 ⟨l2, n2, c2, rfl, how3, hf23⟩
  have hf13 : Fr w1.heap.size [] w1 w3 := Fr.call' (k := hf23) (h := hf12) (hS := by simp)
  have hf3 : Fr w.heap.size [] w w3 := Fr.call' (k := hf13) (h := hf01) (hS := by simp)
  obtain ⟨z0, z1, z2, z3, z4⟩ := (HBX1.out.ext hf13).five
  have hE2 := how3.sl
  have hE1 := (how2.ext hf23).sl
  have hn1 : n1 ≤ 1024 := by
    have := hE1.len
    rw [byts_length] at this
    have := mkPage_le no av l
    omega
  have HOW := hid (how2.ext hf23)
  dsimp only
  generalize mkErr no av l.length = E at *
  go_wp2_with (first | (go_at_call 14; refine (Eq_any _ _ _ _ _ _ (mkPage no av l) (mkPage no av l) _ hE1 hE2).mono ?_; rintro e w' ⟨rfl, rfl⟩; dsimp only))
  refine (Note_any _ B H g N (HBK.out.fr hf3 hH (by simp) (Nat.le_refl _) (Nat.le_refl _)) (by omega) w1.heap.size (by omega) (by have := hf12.size; have := hf23.size; omega) _ _ _ (mkPage no av l) (HOW.out) (by omega)).mono ?_
  rintro e w4 ⟨rfl, hbk4, S, hf4, hS⟩
  have nS : ∀ x, (x < B ∨ (H ≤ x ∧ x < w1.heap.size)) → x ∉ S := by
    intro x hx hm
    have := hBH.out
    rcases hS x hm with h | h <;> omega
  have hf34 : Fr B [] w w4 := (hf3.mono (by have := hBH.out; omega) (by simp)).call (k := hf4) (hB := by have := hf3.size; have := hBH.out; omega) (hS := fun x hx => .inr (by have := hBH.out; rcases hS x hx with h | h <;> omega))
  have hA4 := hid ((hA1.out.ext hf13).fr0 hf4 (fun h0 p hp => ⟨by have := HA.out h0 p hp; have := hf3.size; omega, nS _ (by have := HA.out h0 p hp; omega)⟩))
  have hX4 := hid ((SX.out.ext hf13).fr hf4 (fun p hp => by cases hp; exact ⟨by have := hf13.size; show gx < _; omega, nS _ (.inr ⟨by show H ≤ gx; omega, hgx2⟩)⟩))
  have hbx4 := (HBX1.out.ext hf13).fr hf4 (by have := hf13.size; omega) (nS _ (.inr ⟨hH, by omega⟩))
  obtain ⟨y0, y1, y2, y3, y4⟩ := hbx4.five
  dsimp only
  go_wp2_with (go_at_call 25; refine (Kept_any _ _ _ _ _ _ l _ hX4.out hA4.out (by omega)).mono ?_; rintro e w5 ⟨rfl, hf5⟩; dsimp only)
  go_ret
  refine ⟨rfl, hbk4.fr hf5 (Nat.le_refl _) (by simp) hf5.size (Nat.le_refl _), ?_⟩
  exact hf34.call (k := hf5) (hB := by have := hf34.size; have := hBH.out; omega) (hS := by simp)


set_option maxRecDepth 100000 in
set_option maxHeartbeats 2000000 in
theorem plays3_any (w : World) (ht : Tabled w) (B H g N : Nat) (hbk : Bk w B H g N) (hN : N ≤ 998) (hH : H ≤ w.heap.size) (hB : 1 ≤ B) (no av cv : Int) (a : Option Addr) (m c : Nat) (l : List UInt8) (h : Sl w a m c (byts l)) (hm : m ≤ 1048576) (HA : Hid (0 < m → ∀ p, a = some p → p.block < w.heap.size ∧ (p.block < B ∨ H ≤ p.block))) :
    Calls Tryd.prog 10 #[.pointer (some ⟨g, 0, none⟩), .agg #[.int .i64 3, .int .i64 no, .int .i64 av, .int .i64 cv, .slice a m c]] w fun e w' => e = .returned (.bool true) ∧ Bk w' B w'.heap.size g (N + 2) ∧ Fr B [] w w' := by
  have hle := h.le
  have hcap := h.cap
  have hlen := h.len
  rw [byts_length] at hlen
  have HL := hid hlen
  clear hlen
  have hBH : Hid (B ≤ g ∧ g < H) := by
    obtain ⟨_, _, _, _, _, _, _, _, _, _, _, h5, h6, _⟩ := hbk.out
    exact ⟨h5, h6⟩
  go_enter Tryd.func10, Tryd.ntmps10
  go_wp2_with fail
  obtain ⟨w0, hw0⟩ : ∃ x, x = w.alloc (.cells #[.int .i64 3, .int .i64 no, .int .i64 av, .int .i64 cv, .slice a m c] 34) := ⟨_, rfl⟩
  rw [← hw0]
  have hbx0 : Blk w0 w.heap.size 34 [.int .i64 3, .int .i64 no, .int .i64 av, .int .i64 cv, .slice a m c] := by rw [hw0]; exact Blk.new _ _ _
  have hf0 : Fr w.heap.size [] w w0 := by rw [hw0]; exact (by repeat (first | exact Fr.refl _ _ _ | assumption | apply Fr.drew | (refine Fr.drewN ?_ _) | (refine Fr.alloc ?_ (by first | omega | (simp; done) | (simp; omega)) _) | (refine Fr.setCell ?_ (by first | (left; simp; done) | (right; simp; done) | (right; simp; omega)) _)))
  have hs0 : w0.heap.size = w.heap.size + 1 := by rw [hw0]; simp
  clear hw0
  refine (Room_any _ _ _ l _ (h.ext hf0) (by omega)).mono ?_
  rintro e w1 ⟨ax, cx, rfl, howx, hf1⟩
  have hf01 : Fr w.heap.size [] w w1 := Fr.call' (k := hf1) (h := hf0) (hS := by simp)
  have hbx1 := hbx0.ext hf1
  have SX0 := howx.sl
  obtain ⟨gx, rx, rfl, hgx, -, -, hcx⟩ := howx.blk (by omega)
  have hgx2 := (howx.lt _ rfl).2.2.2
  simp only at hgx2
  have SX := hid SX0
  have hlx := SX0.le
  have SI := SX0.cut2 0 m (some ⟨gx, 0, none⟩) m cx (by omega) (by omega) (by rw [if_neg (by omega)]; rfl) (by omega) (by omega)
  have ei : ((byts (l ++ m3)).take m).drop 0 = byts l := by rw [List.drop_zero, byts_append, List.take_left' (by rw [byts_length, HL.out])]
  rw [ei] at SI
  obtain ⟨z0, z1, z2, z3, z4⟩ := hbx1.five
  have hT1 := hid (ht.ext hf01)
  have hA1 := hid (h.ext hf01)
  have hSI := hid SI
  have HBX1 := hid hbx1
  have HBK := hid hbk
  have h1 := hf01.size
  clear ei SX0 howx hbx0 hbx1 SI hbk h ht hf0
  dsimp only
  go_wp2_with fail
  refine (Open_any no _ _ _ l _ hT1.out hSI.out).mono ?_
  rintro e w2 ⟨l1, n1, c1, rfl, how2, hf12⟩
  obtain ⟨z0, z1, z2, z3, z4⟩ := (HBX1.out.ext hf12).five
  dsimp only
  go_wp2_with fail
  refine (refOpen_any no _ _ _ l _ (hT1.out.ext hf12) (hA1.out.ext hf12)).mono ?_
  rintro e w3 ⟨l2, n2, c2, rfl, how3, hf23⟩
  have hf13 : Fr w1.heap.size [] w1 w3 := Fr.call' (k := hf23) (h := hf12) (hS := by simp)
  have hf3 : Fr w.heap.size [] w w3 := Fr.call' (k := hf13) (h := hf01) (hS := by simp)
  obtain ⟨z0, z1, z2, z3, z4⟩ := (HBX1.out.ext hf13).five
  have hE2 := how3.sl
  have hE1 := (how2.ext hf23).sl
  have hn1 : n1 ≤ 1048576 := by
    have := hE1.len
    rw [byts_length] at this
    have := opCont_le no l (by have := HL.out; omega)
    omega
  have HOW := hid (how2.ext hf23)
  dsimp only
  generalize opErr no l = E at *
  generalize opCount no l = E2 at *
  go_wp2_with (first | (go_at_call 14; refine (Eq_any _ _ _ _ _ _ (opCont no l) (opCont no l) _ hE1 hE2).mono ?_; rintro e w' ⟨rfl, rfl⟩; dsimp only))
  refine (Note_any _ B H g N (HBK.out.fr hf3 hH (by simp) (Nat.le_refl _) (Nat.le_refl _)) (by omega) w1.heap.size (by omega) (by have := hf12.size; have := hf23.size; omega) _ _ _ (opCont no l) (HOW.out) (by omega)).mono ?_
  rintro e w4 ⟨rfl, hbk4, S, hf4, hS⟩
  have nS : ∀ x, (x < B ∨ (H ≤ x ∧ x < w1.heap.size)) → x ∉ S := by
    intro x hx hm
    have := hBH.out
    rcases hS x hm with h | h <;> omega
  have hf34 : Fr B [] w w4 := (hf3.mono (by have := hBH.out; omega) (by simp)).call (k := hf4) (hB := by have := hf3.size; have := hBH.out; omega) (hS := fun x hx => .inr (by have := hBH.out; rcases hS x hx with h | h <;> omega))
  have hA4 := hid ((hA1.out.ext hf13).fr0 hf4 (fun h0 p hp => ⟨by have := HA.out h0 p hp; have := hf3.size; omega, nS _ (by have := HA.out h0 p hp; omega)⟩))
  have hX4 := hid ((SX.out.ext hf13).fr hf4 (fun p hp => by cases hp; exact ⟨by have := hf13.size; show gx < _; omega, nS _ (.inr ⟨by show H ≤ gx; omega, hgx2⟩)⟩))
  have hbx4 := (HBX1.out.ext hf13).fr hf4 (by have := hf13.size; omega) (nS _ (.inr ⟨hH, by omega⟩))
  obtain ⟨y0, y1, y2, y3, y4⟩ := hbx4.five
  dsimp only
  go_wp2_with (go_at_call 25; refine (Kept_any _ _ _ _ _ _ l _ hX4.out hA4.out (by omega)).mono ?_; rintro e w5 ⟨rfl, hf5⟩; dsimp only)
  go_ret
  refine ⟨rfl, hbk4.fr hf5 (Nat.le_refl _) (by simp) hf5.size (Nat.le_refl _), ?_⟩
  exact hf34.call (k := hf5) (hB := by have := hf34.size; have := hBH.out; omega) (hS := by simp)


set_option maxRecDepth 100000 in
set_option maxHeartbeats 2000000 in
theorem plays4_any (w : World) (ht : Tabled w) (B H g N : Nat) (hbk : Bk w B H g N) (hN : N ≤ 998) (hH : H ≤ w.heap.size) (hB : 1 ≤ B) (no av cv : Int) (a : Option Addr) (m c : Nat) (l : List UInt8) (h : Sl w a m c (byts l)) (hm : m ≤ 1048576) (HA : Hid (0 < m → ∀ p, a = some p → p.block < w.heap.size ∧ (p.block < B ∨ H ≤ p.block))) :
    Calls Tryd.prog 10 #[.pointer (some ⟨g, 0, none⟩), .agg #[.int .i64 4, .int .i64 no, .int .i64 av, .int .i64 cv, .slice a m c]] w fun e w' => e = .returned (.bool true) ∧ Bk w' B w'.heap.size g (N + 2) ∧ Fr B [] w w' := by
  have hle := h.le
  have hcap := h.cap
  have hlen := h.len
  rw [byts_length] at hlen
  have HL := hid hlen
  clear hlen
  have hBH : Hid (B ≤ g ∧ g < H) := by
    obtain ⟨_, _, _, _, _, _, _, _, _, _, _, h5, h6, _⟩ := hbk.out
    exact ⟨h5, h6⟩
  go_enter Tryd.func10, Tryd.ntmps10
  go_wp2_with fail
  obtain ⟨w0, hw0⟩ : ∃ x, x = w.alloc (.cells #[.int .i64 4, .int .i64 no, .int .i64 av, .int .i64 cv, .slice a m c] 34) := ⟨_, rfl⟩
  rw [← hw0]
  have hbx0 : Blk w0 w.heap.size 34 [.int .i64 4, .int .i64 no, .int .i64 av, .int .i64 cv, .slice a m c] := by rw [hw0]; exact Blk.new _ _ _
  have hf0 : Fr w.heap.size [] w w0 := by rw [hw0]; exact (by repeat (first | exact Fr.refl _ _ _ | assumption | apply Fr.drew | (refine Fr.drewN ?_ _) | (refine Fr.alloc ?_ (by first | omega | (simp; done) | (simp; omega)) _) | (refine Fr.setCell ?_ (by first | (left; simp; done) | (right; simp; done) | (right; simp; omega)) _)))
  have hs0 : w0.heap.size = w.heap.size + 1 := by rw [hw0]; simp
  clear hw0
  refine (Room_any _ _ _ l _ (h.ext hf0) (by omega)).mono ?_
  rintro e w1 ⟨ax, cx, rfl, howx, hf1⟩
  have hf01 : Fr w.heap.size [] w w1 := Fr.call' (k := hf1) (h := hf0) (hS := by simp)
  have hbx1 := hbx0.ext hf1
  have SX0 := howx.sl
  obtain ⟨gx, rx, rfl, hgx, -, -, hcx⟩ := howx.blk (by omega)
  have hgx2 := (howx.lt _ rfl).2.2.2
  simp only at hgx2
  have SX := hid SX0
  have hlx := SX0.le
  have SI := SX0.cut2 0 m (some ⟨gx, 0, none⟩) m cx (by omega) (by omega) (by rw [if_neg (by omega)]; rfl) (by omega) (by omega)
  have ei : ((byts (l ++ m3)).take m).drop 0 = byts l := by rw [List.drop_zero, byts_append, List.take_left' (by rw [byts_length, HL.out])]
  rw [ei] at SI
  obtain ⟨z0, z1, z2, z3, z4⟩ := hbx1.five
  have hT1 := hid (ht.ext hf01)
  have hA1 := hid (h.ext hf01)
  have hSI := hid SI
  have HBX1 := hid hbx1
  have HBK := hid hbk
  have h1 := hf01.size
  clear ei SX0 howx hbx0 hbx1 SI hbk h ht hf0
  dsimp only
  go_wp2_with fail
  obtain ⟨E, hE⟩ : ∃ E, E = (if mayB no av cv = true then (0 : Int) else 4) := ⟨_, rfl⟩
  have HE := hid hE
  clear hE
  refine (Head_any no av cv _ hT1.out).mono ?_
  rw [← HE.out]
  rintro e w2 ⟨l1, n1, c1, rfl, how2, hf12⟩
  obtain ⟨z0, z1, z2, z3, z4⟩ := (HBX1.out.ext hf12).five
  dsimp only
  go_wp2_with fail
  refine (refHead_any no av cv _).mono ?_
  rw [← HE.out]
  rintro e w3 ⟨l2, n2, c2, rfl, how3, hf23⟩
  have hf13 : Fr w1.heap.size [] w1 w3 := Fr.call' (k := hf23) (h := hf12) (hS := by simp)
  have hf3 : Fr w.heap.size [] w w3 := Fr.call' (k := hf13) (h := hf01) (hS := by simp)
  obtain ⟨z0, z1, z2, z3, z4⟩ := (HBX1.out.ext hf13).five
  have hE2 := how3.sl
  have hE1 := (how2.ext hf23).sl
  have hn1 : n1 ≤ 1024 := by
    have := hE1.len
    rw [byts_length] at this
    have := hdPage_le no av cv
    omega
  have HOW := hid (how2.ext hf23)
  dsimp only
  go_wp2_with (first | (go_at_call 14; refine (Eq_any _ _ _ _ _ _ (hdPage no av cv) (hdPage no av cv) _ hE1 hE2).mono ?_; rintro e w' ⟨rfl, rfl⟩; dsimp only))
  refine (Note_any _ B H g N (HBK.out.fr hf3 hH (by simp) (Nat.le_refl _) (Nat.le_refl _)) (by omega) w1.heap.size (by omega) (by have := hf12.size; have := hf23.size; omega) _ _ _ (hdPage no av cv) (HOW.out) (by omega)).mono ?_
  rintro e w4 ⟨rfl, hbk4, S, hf4, hS⟩
  have nS : ∀ x, (x < B ∨ (H ≤ x ∧ x < w1.heap.size)) → x ∉ S := by
    intro x hx hm
    have := hBH.out
    rcases hS x hm with h | h <;> omega
  have hf34 : Fr B [] w w4 := (hf3.mono (by have := hBH.out; omega) (by simp)).call (k := hf4) (hB := by have := hf3.size; have := hBH.out; omega) (hS := fun x hx => .inr (by have := hBH.out; rcases hS x hx with h | h <;> omega))
  have hA4 := hid ((hA1.out.ext hf13).fr0 hf4 (fun h0 p hp => ⟨by have := HA.out h0 p hp; have := hf3.size; omega, nS _ (by have := HA.out h0 p hp; omega)⟩))
  have hX4 := hid ((SX.out.ext hf13).fr hf4 (fun p hp => by cases hp; exact ⟨by have := hf13.size; show gx < _; omega, nS _ (.inr ⟨by show H ≤ gx; omega, hgx2⟩)⟩))
  have hbx4 := (HBX1.out.ext hf13).fr hf4 (by have := hf13.size; omega) (nS _ (.inr ⟨hH, by omega⟩))
  obtain ⟨y0, y1, y2, y3, y4⟩ := hbx4.five
  dsimp only
  go_wp2_with (go_at_call 25; refine (Kept_any _ _ _ _ _ _ l _ hX4.out hA4.out (by omega)).mono ?_; rintro e w5 ⟨rfl, hf5⟩; dsimp only)
  go_ret
  refine ⟨rfl, hbk4.fr hf5 (Nat.le_refl _) (by simp) hf5.size (Nat.le_refl _), ?_⟩
  exact hf34.call (k := hf5) (hB := by have := hf34.size; have := hBH.out; omega) (hS := by simp)


set_option maxRecDepth 100000 in
set_option maxHeartbeats 2000000 in
theorem plays5_any (w : World) (ht : Tabled w) (B H g N : Nat) (hbk : Bk w B H g N) (hN : N ≤ 998) (hH : H ≤ w.heap.size) (hB : 1 ≤ B) (no av cv : Int) (a : Option Addr) (m c : Nat) (l : List UInt8) (h : Sl w a m c (byts l)) (hm : m ≤ 1048576) (HA : Hid (0 < m → ∀ p, a = some p → p.block < w.heap.size ∧ (p.block < B ∨ H ≤ p.block))) :
    Calls Tryd.prog 10 #[.pointer (some ⟨g, 0, none⟩), .agg #[.int .i64 5, .int .i64 no, .int .i64 av, .int .i64 cv, .slice a m c]] w fun e w' => e = .returned (.bool true) ∧ Bk w' B w'.heap.size g (N + 2) ∧ Fr B [] w w' := by
  have hle := h.le
  have hcap := h.cap
  have hlen := h.len
  rw [byts_length] at hlen
  have HL := hid hlen
  clear hlen
  have hBH : Hid (B ≤ g ∧ g < H) := by
    obtain ⟨_, _, _, _, _, _, _, _, _, _, _, h5, h6, _⟩ := hbk.out
    exact ⟨h5, h6⟩
  go_enter Tryd.func10, Tryd.ntmps10
  go_wp2_with fail
  obtain ⟨w0, hw0⟩ : ∃ x, x = w.alloc (.cells #[.int .i64 5, .int .i64 no, .int .i64 av, .int .i64 cv, .slice a m c] 34) := ⟨_, rfl⟩
  rw [← hw0]
  have hbx0 : Blk w0 w.heap.size 34 [.int .i64 5, .int .i64 no, .int .i64 av, .int .i64 cv, .slice a m c] := by rw [hw0]; exact Blk.new _ _ _
  have hf0 : Fr w.heap.size [] w w0 := by rw [hw0]; exact (by repeat (first | exact Fr.refl _ _ _ | assumption | apply Fr.drew | (refine Fr.drewN ?_ _) | (refine Fr.alloc ?_ (by first | omega | (simp; done) | (simp; omega)) _) | (refine Fr.setCell ?_ (by first | (left; simp; done) | (right; simp; done) | (right; simp; omega)) _)))
  have hs0 : w0.heap.size = w.heap.size + 1 := by rw [hw0]; simp
  clear hw0
  refine (Room_any _ _ _ l _ (h.ext hf0) (by omega)).mono ?_
  rintro e w1 ⟨ax, cx, rfl, howx, hf1⟩
  have hf01 : Fr w.heap.size [] w w1 := Fr.call' (k := hf1) (h := hf0) (hS := by simp)
  have hbx1 := hbx0.ext hf1
  have SX0 := howx.sl
  obtain ⟨gx, rx, rfl, hgx, -, -, hcx⟩ := howx.blk (by omega)
  have hgx2 := (howx.lt _ rfl).2.2.2
  simp only at hgx2
  have SX := hid SX0
  have hlx := SX0.le
  have SI := SX0.cut2 0 m (some ⟨gx, 0, none⟩) m cx (by omega) (by omega) (by rw [if_neg (by omega)]; rfl) (by omega) (by omega)
  have ei : ((byts (l ++ m3)).take m).drop 0 = byts l := by rw [List.drop_zero, byts_append, List.take_left' (by rw [byts_length, HL.out])]
  rw [ei] at SI
  obtain ⟨z0, z1, z2, z3, z4⟩ := hbx1.five
  have hT1 := hid (ht.ext hf01)
  have hA1 := hid (h.ext hf01)
  have hSI := hid SI
  have HBX1 := hid hbx1
  have HBK := hid hbk
  have h1 := hf01.size
  clear ei SX0 howx hbx0 hbx1 SI hbk h ht hf0
  dsimp only
  go_wp2_with fail
  refine (OpenHead_any _ _ _ l _ hT1.out hSI.out).mono ?_
  rintro e w2 ⟨rfl, hf12⟩
  obtain ⟨z0, z1, z2, z3, z4⟩ := (HBX1.out.ext hf12).five
  dsimp only
  go_wp2_with fail
  refine (refOpenHead_any _ _ _ l _ (hT1.out.ext hf12) (hA1.out.ext hf12)).mono ?_
  rintro e w3 ⟨rfl, hf23⟩
  have hf13 : Fr w1.heap.size [] w1 w3 := Fr.call' (k := hf23) (h := hf12) (hS := by simp)
  obtain ⟨z0, z1, z2, z3, z4⟩ := (HBX1.out.ext hf13).five
  dsimp only
  generalize ohErr l = E at *
  generalize ohOut l (num (sub l 16 18)) = E2 at *
  generalize ohOut l (num (sub l 18 20)) = E3 at *
  generalize ohOut l (num (sub l 20 24)) = E4 at *
  go_wp2_with (go_at_call 25; refine (Kept_any _ _ _ _ _ _ l _ (SX.out.ext hf13) (hA1.out.ext hf13) (by omega)).mono ?_; rintro e w5 ⟨rfl, hf5⟩; dsimp only)
  go_ret
  have hf15 : Fr w1.heap.size [] w1 w5 := Fr.call' (k := hf5) (h := hf13) (hS := by simp)
  have hf5' : Fr w.heap.size [] w w5 := Fr.call' (k := hf15) (h := hf01) (hS := by simp)
  exact ⟨rfl, HBK.out.fr hf5' hH (by simp) (by have := hf5'.size; omega) (by omega), hf5'.mono (by have := hBH.out; omega) (by simp)⟩


set_option maxRecDepth 100000 in
set_option maxHeartbeats 2000000 in
theorem plays0_any (w : World) (ht : Tabled w) (B H g N : Nat) (hbk : Bk w B H g N) (hN : N ≤ 998) (hH : H ≤ w.heap.size) (hB : 1 ≤ B) (kd : Int) (k1 : kd ≠ 1) (k2 : kd ≠ 2) (k3 : kd ≠ 3) (k4 : kd ≠ 4) (k5 : kd ≠ 5) (no av cv : Int) (a : Option Addr) (m c : Nat) (l : List UInt8) (h : Sl w a m c (byts l)) (hm : m ≤ 1048576) (HA : Hid (0 < m → ∀ p, a = some p → p.block < w.heap.size ∧ (p.block < B ∨ H ≤ p.block))) :
    Calls Tryd.prog 10 #[.pointer (some ⟨g, 0, none⟩), .agg #[.int .i64 kd, .int .i64 no, .int .i64 av, .int .i64 cv, .slice a m c]] w fun e w' => e = .returned (.bool true) ∧ Bk w' B w'.heap.size g (N + 2) ∧ Fr B [] w w' := by
  have hle := h.le
  have hcap := h.cap
  have hlen := h.len
  rw [byts_length] at hlen
  have HL := hid hlen
  clear hlen
  have hBH : Hid (B ≤ g ∧ g < H) := by
    obtain ⟨_, _, _, _, _, _, _, _, _, _, _, h5, h6, _⟩ := hbk.out
    exact ⟨h5, h6⟩
  have j1 : (kd == 1) = false := by simpa using k1
  have j2 : (kd == 2) = false := by simpa using k2
  have j3 : (kd == 3) = false := by simpa using k3
  have j4 : (kd == 4) = false := by simpa using k4
  have j5 : (kd == 5) = false := by simpa using k5
  go_enter Tryd.func10, Tryd.ntmps10
  go_wp2_with fail
  obtain ⟨w0, hw0⟩ : ∃ x, x = w.alloc (.cells #[.int .i64 kd, .int .i64 no, .int .i64 av, .int .i64 cv, .slice a m c] 34) := ⟨_, rfl⟩
  rw [← hw0]
  have hbx0 : Blk w0 w.heap.size 34 [.int .i64 kd, .int .i64 no, .int .i64 av, .int .i64 cv, .slice a m c] := by rw [hw0]; exact Blk.new _ _ _
  have hf0 : Fr w.heap.size [] w w0 := by rw [hw0]; exact (by repeat (first | exact Fr.refl _ _ _ | assumption | apply Fr.drew | (refine Fr.drewN ?_ _) | (refine Fr.alloc ?_ (by first | omega | (simp; done) | (simp; omega)) _) | (refine Fr.setCell ?_ (by first | (left; simp; done) | (right; simp; done) | (right; simp; omega)) _)))
  have hs0 : w0.heap.size = w.heap.size + 1 := by rw [hw0]; simp
  clear hw0
  refine (Room_any _ _ _ l _ (h.ext hf0) (by omega)).mono ?_
  rintro e w1 ⟨ax, cx, rfl, howx, hf1⟩
  have hf01 : Fr w.heap.size [] w w1 := Fr.call' (k := hf1) (h := hf0) (hS := by simp)
  have hbx1 := hbx0.ext hf1
  have SX0 := howx.sl
  obtain ⟨gx, rx, rfl, hgx, -, -, hcx⟩ := howx.blk (by omega)
  have hgx2 := (howx.lt _ rfl).2.2.2
  simp only at hgx2
  have SX := hid SX0
  have hlx := SX0.le
  have SI := SX0.cut2 0 m (some ⟨gx, 0, none⟩) m cx (by omega) (by omega) (by rw [if_neg (by omega)]; rfl) (by omega) (by omega)
  have ei : ((byts (l ++ m3)).take m).drop 0 = byts l := by rw [List.drop_zero, byts_append, List.take_left' (by rw [byts_length, HL.out])]
  rw [ei] at SI
  obtain ⟨z0, z1, z2, z3, z4⟩ := hbx1.five
  have hT1 := hid (ht.ext hf01)
  have hA1 := hid (h.ext hf01)
  have hSI := hid SI
  have HBX1 := hid hbx1
  have HBK := hid hbk
  have h1 := hf01.size
  clear ei SX0 howx hbx0 hbx1 SI hbk h ht hf0
  dsimp only
  have hf11 : Fr w1.heap.size [] w1 w1 := Fr.refl _ _ _
  go_wp2_with (go_at_call 25; refine (Kept_any _ _ _ _ _ _ l _ (SX.out.ext hf11) (hA1.out.ext hf11) (by omega)).mono ?_; rintro e w5 ⟨rfl, hf5⟩; dsimp only)
  go_ret
  have hf15 : Fr w1.heap.size [] w1 w5 := Fr.call' (k := hf5) (h := hf11) (hS := by simp)
  have hf5' : Fr w.heap.size [] w w5 := Fr.call' (k := hf15) (h := hf01) (hS := by simp)
  exact ⟨rfl, HBK.out.fr hf5' hH (by simp) (by have := hf5'.size; omega) (by omega), hf5'.mono (by have := hBH.out; omega) (by simp)⟩


set_option maxRecDepth 100000 in
set_option maxHeartbeats 2000000 in
theorem plays1_any (w : World) (ht : Tabled w) (B H g N : Nat) (hbk : Bk w B H g N) (hN : N ≤ 998) (hH : H ≤ w.heap.size) (hB : 1 ≤ B) (no av cv : Int) (a : Option Addr) (m c : Nat) (l : List UInt8) (h : Sl w a m c (byts l)) (hm : m ≤ 1048576) (HA : Hid (0 < m → ∀ p, a = some p → p.block < w.heap.size ∧ (p.block < B ∨ H ≤ p.block))) :
    Calls Tryd.prog 10 #[.pointer (some ⟨g, 0, none⟩), .agg #[.int .i64 1, .int .i64 no, .int .i64 av, .int .i64 cv, .slice a m c]] w fun e w' => e = .returned (.bool true) ∧ Bk w' B w'.heap.size g (N + 2) ∧ Fr B [] w w' := by
  have hle := h.le
  have hcap := h.cap
  have hlen := h.len
  rw [byts_length] at hlen
  have HL := hid hlen
  clear hlen
  have hBH : Hid (B ≤ g ∧ g < H) := by
    obtain ⟨_, _, _, _, _, _, _, _, _, _, _, h5, h6, _⟩ := hbk.out
    exact ⟨h5, h6⟩
  go_enter Tryd.func10, Tryd.ntmps10
  go_wp2_with fail
  obtain ⟨w0, hw0⟩ : ∃ x, x = w.alloc (.cells #[.int .i64 1, .int .i64 no, .int .i64 av, .int .i64 cv, .slice a m c] 34) := ⟨_, rfl⟩
  rw [← hw0]
  have hbx0 : Blk w0 w.heap.size 34 [.int .i64 1, .int .i64 no, .int .i64 av, .int .i64 cv, .slice a m c] := by rw [hw0]; exact Blk.new _ _ _
  have hf0 : Fr w.heap.size [] w w0 := by rw [hw0]; exact (by repeat (first | exact Fr.refl _ _ _ | assumption | apply Fr.drew | (refine Fr.drewN ?_ _) | (refine Fr.alloc ?_ (by first | omega | (simp; done) | (simp; omega)) _) | (refine Fr.setCell ?_ (by first | (left; simp; done) | (right; simp; done) | (right; simp; omega)) _)))
  have hs0 : w0.heap.size = w.heap.size + 1 := by rw [hw0]; simp
  clear hw0
  refine (Room_any _ _ _ l _ (h.ext hf0) (by omega)).mono ?_
  rintro e w1 ⟨ax, cx, rfl, howx, hf1⟩
  have hf01 : Fr w.heap.size [] w w1 := Fr.call' (k := hf1) (h := hf0) (hS := by simp)
  have hbx1 := hbx0.ext hf1
  have SX0 := howx.sl
  obtain ⟨gx, rx, rfl, hgx, -, -, hcx⟩ := howx.blk (by omega)
  have hgx2 := (howx.lt _ rfl).2.2.2
  simp only at hgx2
  have SX := hid SX0
  have hlx := SX0.le
  have SI := SX0.cut2 0 m (some ⟨gx, 0, none⟩) m cx (by omega) (by omega) (by rw [if_neg (by omega)]; rfl) (by omega) (by omega)
  have ei : ((byts (l ++ m3)).take m).drop 0 = byts l := by rw [List.drop_zero, byts_append, List.take_left' (by rw [byts_length, HL.out])]
  rw [ei] at SI
  obtain ⟨z0, z1, z2, z3, z4⟩ := hbx1.five
  have hT1 := hid (ht.ext hf01)
  have hA1 := hid (h.ext hf01)
  have hSI := hid SI
  have HBX1 := hid hbx1
  have HBK := hid hbk
  have h1 := hf01.size
  clear ei SX0 howx hbx0 hbx1 SI hbk h ht hf0
  dsimp only
  go_upto_region 6 with (fail)
  go_cut [8] from 44 to 49 (fun s8 wx => ∃ K : Nat, K ≤ m ∧ s8 = .int .i64 (K : Int) ∧ w1 = wx)
  case first =>
    go_wp2_with fail
    all_goals go_meet
    all_goals first | exact ⟨0, by omega, rfl, rfl⟩ | exact ⟨m, by omega, rfl, rfl⟩ | exact ⟨av.toNat, by omega, by rw [Int.toNat_of_nonneg (by omega)], rfl⟩
  case rest =>
    obtain ⟨K, hK, rfl, rfl⟩ := hcut
    obtain ⟨i, hi, hz, hsz, hby⟩ := info_parts infoU8
    have JI := hid hi
    have JZ := hid hz
    have JS := hid hsz
    have JB := hid hby
    clear hi hz hsz hby
    have hKc : (K : Int) ≤ c := by omega
    have hKm : (K : Int) ≤ m := by omega
    have et : ((byts l).take m).drop K = byts (l.drop K) := by rw [List.take_of_length_le (by rw [byts_length, HL.out]; omega)]; simp [byts]
    have ET := hid et
    by_cases hcl : c = K
    · have SD := hA1.out.cut K m hK (Nat.le_refl _) a (by rw [if_pos hcl])
      rw [et] at SD
      have SD' := hid SD
      have hcl' : (c = K) = True := by simp [hcl]
      clear SD et hcl
      go_upto_region 7 with (fail)
      go_cut [9] from 50 to 57 (fun s9 wx => ∃ a2 c2, s9 = .slice a2 (m + (m - K)) c2 ∧ Sl wx a2 (m + (m - K)) c2 (byts (l ++ l.drop K)) ∧ Fr w1.heap.size [] w1 wx)
      case first =>
        go_region_law (first | ((with_reducible show (if Region.wanted (Oper.mk (some 52) _ _ _ _ _) _ = true then _ else _)); refine step_app (by rfl) (.const (.slice none 0 0)) (.tmp 51) 22 (by rfl) w1.heap.size 5 Tryd.underlying22 JI.out JZ.out JS.out JB.out (by rfl) (by rfl) (by rfl) (Ow.nil _ _ _) (hA1.out.ext (by repeat (first | exact Fr.refl _ _ _ | assumption | apply Fr.drew | (refine Fr.drewN ?_ _) | (refine Fr.alloc ?_ (by first | omega | (simp; done) | (simp; omega)) _) | (refine Fr.setCell ?_ (by first | (left; simp; done) | (right; simp; done) | (right; simp; omega)) _)))) (byts_oneCell _) (by simp [maxLen]; omega) (by omega) (by simp) ?_; intro a5 c5 w5 how5 f5 hn5 l5; rw [Nat.zero_add] at how5 ⊢; rw [List.nil_append] at how5; have fw5 : Fr w1.heap.size [] w1 w5 := (Fr.call (k := f5) (h := (by repeat (first | exact Fr.refl _ _ _ | assumption | apply Fr.drew | (refine Fr.drewN ?_ _) | (refine Fr.alloc ?_ (by first | omega | (simp; done) | (simp; omega)) _) | (refine Fr.setCell ?_ (by first | (left; simp; done) | (right; simp; done) | (right; simp; omega)) _)))) (hB := by simp) (hS := fun y hy => by simp [blk] at hy)); obtain ⟨q0, q1, q2, q3, q4⟩ := (HBX1.out.ext fw5).five) | ((with_reducible show (if Region.wanted (Oper.mk (some 57) _ _ _ _ _) _ = true then _ else _)); refine step_app (by rfl) (.tmp 52) (.tmp 56) 22 (by rfl) w1.heap.size 5 Tryd.underlying22 JI.out JZ.out JS.out JB.out (by rfl) (by rfl) (by rfl) (how5.ext (by repeat (first | exact Fr.refl _ _ _ | assumption | apply Fr.drew | (refine Fr.drewN ?_ _) | (refine Fr.alloc ?_ (by first | omega | (simp; done) | (simp; omega)) _) | (refine Fr.setCell ?_ (by first | (left; simp; done) | (right; simp; done) | (right; simp; omega)) _)))) (SD'.out.ext fw5) (byts_oneCell _) (by simp [maxLen]; omega) (by omega) (by have := fw5.size; simp; omega) ?_; intro a6 c6 w6 how6 f6 hn6 l6))
        all_goals go_wp2_with fail
        all_goals go_meet
        all_goals
          rw [← byts_append] at how6
          have fw6 : Fr w1.heap.size [] w1 w6 := Fr.call (k := f6) (h := fw5) (hB := by have := fw5.size; simp <;> omega) (hS := fun y hy => by
            obtain ⟨p, hp, rfl⟩ := mem_blk.1 hy
            exact .inr (how5.lt p hp).2.2.1)
          exact ⟨a6, c6, rfl, how6.sl, fw6⟩
      case rest =>
        obtain ⟨a2, c2, rfl, hS2, hf12⟩ := hcut
        have SA' := ((hSI.out.cut2 K m (some ⟨gx, 0 + K, none⟩) (m - K) (cx - K) hK (Nat.le_refl _) (by rw [if_neg (by omega), Option.map_some, Addr.add_lit]) rfl rfl).ext hf12)
        rw [ET.out, Nat.zero_add] at SA'
        have SA := hid SA'
        have hcx' : (cx = K) = False := by simp; omega
        have hcx2 : (K : Int) ≤ cx := by omega
        have SI2 := hid (hSI.out.ext hf12)
        have HS2 := hid hS2
        have HT2 := hid (hT1.out.ext hf12)
        have hcr : Hid ((crc [l, l.drop K, []].flatten).toNat = (crc (l ++ l.drop K)).toNat) := by show _ = _; simp
        obtain ⟨z0, z1, z2, z3, z4⟩ := (HBX1.out.ext hf12).five
        have z4a : ∀ o : Obj, (wc.alloc o).cell? ⟨w.heap.size, 4, none⟩ = some (.slice a m c) := fun o => Fr.cell_ext (w := wc) (by repeat (first | exact Fr.refl _ _ _ | assumption | apply Fr.drew | (refine Fr.drewN ?_ _) | (refine Fr.alloc ?_ (by first | omega | (simp; done) | (simp; omega)) _) | (refine Fr.setCell ?_ (by first | (left; simp; done) | (right; simp; done) | (right; simp; omega)) _))) z4
        clear SA' hS2
        go_wp2_with (first | (go_at_call 8; go_loud (refine (sum_any _ _ _ [l, l.drop K, []] _ (HT2.out.ext (by repeat (first | exact Fr.refl _ _ _ | assumption | apply Fr.drew | (refine Fr.drewN ?_ _) | (refine Fr.alloc ?_ (by first | omega | (simp; done) | (simp; omega)) _) | (refine Fr.setCell ?_ (by first | (left; simp; done) | (right; simp; done) | (right; simp; omega)) _)))) (SlL.of_blk (ls := [l, l.drop K, []]) (cs := [.slice (some ⟨gx, 0, none⟩) m cx, .slice (some ⟨gx, K, none⟩) (m - K) (cx - K), .slice none 0 0]) (by repeat (first | assumption | apply Blk.drew | exact Blk.new' _ _ (by first | rfl | (simp; done) | (simp; omega)) | apply Blk.alloc)) (And.intro ⟨_, _, _, rfl, SI2.out.ext (by repeat (first | exact Fr.refl _ _ _ | assumption | apply Fr.drew | (refine Fr.drewN ?_ _) | (refine Fr.alloc ?_ (by first | omega | (simp; done) | (simp; omega)) _) | (refine Fr.setCell ?_ (by first | (left; simp; done) | (right; simp; done) | (right; simp; omega)) _)))⟩ (And.intro ⟨_, _, _, rfl, SA.out.ext (by repeat (first | exact Fr.refl _ _ _ | assumption | apply Fr.drew | (refine Fr.drewN ?_ _) | (refine Fr.alloc ?_ (by first | omega | (simp; done) | (simp; omega)) _) | (refine Fr.setCell ?_ (by first | (left; simp; done) | (right; simp; done) | (right; simp; omega)) _)))⟩ (And.intro ⟨_, _, _, rfl, Sl.nil' _⟩ trivial))) 3 rfl (by omega)) (by omega)).mono ?_; rintro e w' ⟨rfl, rfl⟩; rw [hcr.out]; dsimp only)) | (go_at_call 19; refine (refSum_any _ _ _ (l ++ l.drop K) _ (HS2.out.ext (by repeat (first | exact Fr.refl _ _ _ | assumption | apply Fr.drew | (refine Fr.drewN ?_ _) | (refine Fr.alloc ?_ (by first | omega | (simp; done) | (simp; omega)) _) | (refine Fr.setCell ?_ (by first | (left; simp; done) | (right; simp; done) | (right; simp; omega)) _))))).mono ?_; rintro e w' ⟨rfl, rfl⟩; dsimp only) | (go_at_call 25; have q12 := hf12.size; refine (Kept_any _ _ _ _ _ _ l _ (SX.out.ext (by repeat (first | exact Fr.refl _ _ _ | assumption | apply Fr.drew | (refine Fr.drewN ?_ _) | (refine Fr.alloc ?_ (by first | omega | (simp; done) | (simp; omega)) _) | (refine Fr.setCell ?_ (by first | (left; simp; done) | (right; simp; done) | (right; simp; omega)) _)))) (hA1.out.ext (by repeat (first | exact Fr.refl _ _ _ | assumption | apply Fr.drew | (refine Fr.drewN ?_ _) | (refine Fr.alloc ?_ (by first | omega | (simp; done) | (simp; omega)) _) | (refine Fr.setCell ?_ (by first | (left; simp; done) | (right; simp; done) | (right; simp; omega)) _)))) (by omega)).mono ?_; rintro e w5 ⟨rfl, hf5⟩; dsimp only))
        go_ret
        have hf15 : Fr w1.heap.size [] w1 w5 := Fr.call' (k := hf5) (h := (by repeat (first | exact Fr.refl _ _ _ | assumption | apply Fr.drew | (refine Fr.drewN ?_ _) | (refine Fr.alloc ?_ (by first | omega | (simp; done) | (simp; omega)) _) | (refine Fr.setCell ?_ (by first | (left; simp; done) | (right; simp; done) | (right; simp; omega)) _)))) (hS := by simp)
        have hf5' : Fr w.heap.size [] w w5 := Fr.call' (k := hf15) (h := hf01) (hS := by simp)
        exact ⟨rfl, HBK.out.fr hf5' hH (by simp) (by have := hf5'.size; omega) (by omega), hf5'.mono (by have := hBH.out; omega) (by simp)⟩
    · have SD := hA1.out.cut K m hK (Nat.le_refl _) (a.map (·.add K)) (by rw [if_neg hcl])
      rw [et] at SD
      have SD' := hid SD
      have hcl' : (c = K) = False := by simp [hcl]
      clear SD et hcl
      go_upto_region 7 with (fail)
      go_cut [9] from 50 to 57 (fun s9 wx => ∃ a2 c2, s9 = .slice a2 (m + (m - K)) c2 ∧ Sl wx a2 (m + (m - K)) c2 (byts (l ++ l.drop K)) ∧ Fr w1.heap.size [] w1 wx)
      case first =>
        go_region_law (first | ((with_reducible show (if Region.wanted (Oper.mk (some 52) _ _ _ _ _) _ = true then _ else _)); refine step_app (by rfl) (.const (.slice none 0 0)) (.tmp 51) 22 (by rfl) w1.heap.size 5 Tryd.underlying22 JI.out JZ.out JS.out JB.out (by rfl) (by rfl) (by rfl) (Ow.nil _ _ _) (hA1.out.ext (by repeat (first | exact Fr.refl _ _ _ | assumption | apply Fr.drew | (refine Fr.drewN ?_ _) | (refine Fr.alloc ?_ (by first | omega | (simp; done) | (simp; omega)) _) | (refine Fr.setCell ?_ (by first | (left; simp; done) | (right; simp; done) | (right; simp; omega)) _)))) (byts_oneCell _) (by simp [maxLen]; omega) (by omega) (by simp) ?_; intro a5 c5 w5 how5 f5 hn5 l5; rw [Nat.zero_add] at how5 ⊢; rw [List.nil_append] at how5; have fw5 : Fr w1.heap.size [] w1 w5 := (Fr.call (k := f5) (h := (by repeat (first | exact Fr.refl _ _ _ | assumption | apply Fr.drew | (refine Fr.drewN ?_ _) | (refine Fr.alloc ?_ (by first | omega | (simp; done) | (simp; omega)) _) | (refine Fr.setCell ?_ (by first | (left; simp; done) | (right; simp; done) | (right; simp; omega)) _)))) (hB := by simp) (hS := fun y hy => by simp [blk] at hy)); obtain ⟨q0, q1, q2, q3, q4⟩ := (HBX1.out.ext fw5).five) | ((with_reducible show (if Region.wanted (Oper.mk (some 57) _ _ _ _ _) _ = true then _ else _)); refine step_app (by rfl) (.tmp 52) (.tmp 56) 22 (by rfl) w1.heap.size 5 Tryd.underlying22 JI.out JZ.out JS.out JB.out (by rfl) (by rfl) (by rfl) (how5.ext (by repeat (first | exact Fr.refl _ _ _ | assumption | apply Fr.drew | (refine Fr.drewN ?_ _) | (refine Fr.alloc ?_ (by first | omega | (simp; done) | (simp; omega)) _) | (refine Fr.setCell ?_ (by first | (left; simp; done) | (right; simp; done) | (right; simp; omega)) _)))) (SD'.out.ext fw5) (byts_oneCell _) (by simp [maxLen]; omega) (by omega) (by have := fw5.size; simp; omega) ?_; intro a6 c6 w6 how6 f6 hn6 l6))
        all_goals go_wp2_with fail
        all_goals go_meet
        all_goals
          rw [← byts_append] at how6
          have fw6 : Fr w1.heap.size [] w1 w6 := Fr.call (k := f6) (h := fw5) (hB := by have := fw5.size; simp <;> omega) (hS := fun y hy => by
            obtain ⟨p, hp, rfl⟩ := mem_blk.1 hy
            exact .inr (how5.lt p hp).2.2.1)
          exact ⟨a6, c6, rfl, how6.sl, fw6⟩
      case rest =>
        obtain ⟨a2, c2, rfl, hS2, hf12⟩ := hcut
        have SA' := ((hSI.out.cut2 K m (some ⟨gx, 0 + K, none⟩) (m - K) (cx - K) hK (Nat.le_refl _) (by rw [if_neg (by omega), Option.map_some, Addr.add_lit]) rfl rfl).ext hf12)
        rw [ET.out, Nat.zero_add] at SA'
        have SA := hid SA'
        have hcx' : (cx = K) = False := by simp; omega
        have hcx2 : (K : Int) ≤ cx := by omega
        have SI2 := hid (hSI.out.ext hf12)
        have HS2 := hid hS2
        have HT2 := hid (hT1.out.ext hf12)
        have hcr : Hid ((crc [l, l.drop K, []].flatten).toNat = (crc (l ++ l.drop K)).toNat) := by show _ = _; simp
        obtain ⟨z0, z1, z2, z3, z4⟩ := (HBX1.out.ext hf12).five
        have z4a : ∀ o : Obj, (wc.alloc o).cell? ⟨w.heap.size, 4, none⟩ = some (.slice a m c) := fun o => Fr.cell_ext (w := wc) (by repeat (first | exact Fr.refl _ _ _ | assumption | apply Fr.drew | (refine Fr.drewN ?_ _) | (refine Fr.alloc ?_ (by first | omega | (simp; done) | (simp; omega)) _) | (refine Fr.setCell ?_ (by first | (left; simp; done) | (right; simp; done) | (right; simp; omega)) _))) z4
        clear SA' hS2
        go_wp2_with (first | (go_at_call 8; go_loud (refine (sum_any _ _ _ [l, l.drop K, []] _ (HT2.out.ext (by repeat (first | exact Fr.refl _ _ _ | assumption | apply Fr.drew | (refine Fr.drewN ?_ _) | (refine Fr.alloc ?_ (by first | omega | (simp; done) | (simp; omega)) _) | (refine Fr.setCell ?_ (by first | (left; simp; done) | (right; simp; done) | (right; simp; omega)) _)))) (SlL.of_blk (ls := [l, l.drop K, []]) (cs := [.slice (some ⟨gx, 0, none⟩) m cx, .slice (some ⟨gx, K, none⟩) (m - K) (cx - K), .slice none 0 0]) (by repeat (first | assumption | apply Blk.drew | exact Blk.new' _ _ (by first | rfl | (simp; done) | (simp; omega)) | apply Blk.alloc)) (And.intro ⟨_, _, _, rfl, SI2.out.ext (by repeat (first | exact Fr.refl _ _ _ | assumption | apply Fr.drew | (refine Fr.drewN ?_ _) | (refine Fr.alloc ?_ (by first | omega | (simp; done) | (simp; omega)) _) | (refine Fr.setCell ?_ (by first | (left; simp; done) | (right; simp; done) | (right; simp; omega)) _)))⟩ (And.intro ⟨_, _, _, rfl, SA.out.ext (by repeat (first | exact Fr.refl _ _ _ | assumption | apply Fr.drew | (refine Fr.drewN ?_ _) | (refine Fr.alloc ?_ (by first | omega | (simp; done) | (simp; omega)) _) | (refine Fr.setCell ?_ (by first | (left; simp; done) | (right; simp; done) | (right; simp; omega)) _)))⟩ (And.intro ⟨_, _, _, rfl, Sl.nil' _⟩ trivial))) 3 rfl (by omega)) (by omega)).mono ?_; rintro e w' ⟨rfl, rfl⟩; rw [hcr.out]; dsimp only)) | (go_at_call 19; refine (refSum_any _ _ _ (l ++ l.drop K) _ (HS2.out.ext (by repeat (first | exact Fr.refl _ _ _ | assumption | apply Fr.drew | (refine Fr.drewN ?_ _) | (refine Fr.alloc ?_ (by first | omega | (simp; done) | (simp; omega)) _) | (refine Fr.setCell ?_ (by first | (left; simp; done) | (right; simp; done) | (right; simp; omega)) _))))).mono ?_; rintro e w' ⟨rfl, rfl⟩; dsimp only) | (go_at_call 25; have q12 := hf12.size; refine (Kept_any _ _ _ _ _ _ l _ (SX.out.ext (by repeat (first | exact Fr.refl _ _ _ | assumption | apply Fr.drew | (refine Fr.drewN ?_ _) | (refine Fr.alloc ?_ (by first | omega | (simp; done) | (simp; omega)) _) | (refine Fr.setCell ?_ (by first | (left; simp; done) | (right; simp; done) | (right; simp; omega)) _)))) (hA1.out.ext (by repeat (first | exact Fr.refl _ _ _ | assumption | apply Fr.drew | (refine Fr.drewN ?_ _) | (refine Fr.alloc ?_ (by first | omega | (simp; done) | (simp; omega)) _) | (refine Fr.setCell ?_ (by first | (left; simp; done) | (right; simp; done) | (right; simp; omega)) _)))) (by omega)).mono ?_; rintro e w5 ⟨rfl, hf5⟩; dsimp only))
        go_ret
        have hf15 : Fr w1.heap.size [] w1 w5 := Fr.call' (k := hf5) (h := (by repeat (first | exact Fr.refl _ _ _ | assumption | apply Fr.drew | (refine Fr.drewN ?_ _) | (refine Fr.alloc ?_ (by first | omega | (simp; done) | (simp; omega)) _) | (refine Fr.setCell ?_ (by first | (left; simp; done) | (right; simp; done) | (right; simp; omega)) _)))) (hS := by simp)
        have hf5' : Fr w.heap.size [] w w5 := Fr.call' (k := hf15) (h := hf01) (hS := by simp)
        exact ⟨rfl, HBK.out.fr hf5' hH (by simp) (by have := hf5'.size; omega) (by omega), hf5'.mono (by have := hBH.out; omega) (by simp)⟩


theorem plays_any (w : World) (ht : Tabled w) (B H g N : Nat) (hbk : Bk w B H g N) (hN : N ≤ 998) (hH : H ≤ w.heap.size) (hB : 1 ≤ B) (kd no av cv : Int) (a : Option Addr) (m c : Nat) (l : List UInt8) (h : Sl w a m c (byts l)) (hm : m ≤ 1048576) (HA : Hid (0 < m → ∀ p, a = some p → p.block < w.heap.size ∧ (p.block < B ∨ H ≤ p.block))) :
    Calls Tryd.prog 10 #[.pointer (some ⟨g, 0, none⟩), .agg #[.int .i64 kd, .int .i64 no, .int .i64 av, .int .i64 cv, .slice a m c]] w fun e w' => e = .returned (.bool true) ∧ Bk w' B w'.heap.size g (N + 2) ∧ Fr B [] w w' := by
  by_cases k1 : kd = 1
  · subst k1; exact plays1_any w ht B H g N hbk hN hH hB no av cv a m c l h hm HA
  by_cases k2 : kd = 2
  · subst k2; exact plays2_any w ht B H g N hbk hN hH hB no av cv a m c l h hm HA
  by_cases k3 : kd = 3
  · subst k3; exact plays3_any w ht B H g N hbk hN hH hB no av cv a m c l h hm HA
  by_cases k4 : kd = 4
  · subst k4; exact plays4_any w ht B H g N hbk hN hH hB no av cv a m c l h hm HA
  by_cases k5 : kd = 5
  · subst k5; exact plays5_any w ht B H g N hbk hN hH hB no av cv a m c l h hm HA
  exact plays0_any w ht B H g N hbk hN hH hB kd k1 k2 k3 k4 k5 no av cv a m c l h hm HA
end Go.Proofs.YtipmfbpomhcfcaaDoor
