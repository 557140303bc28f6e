/- PageExact, walked. -/
import Derived.Test.YtipmfbpomhcfcaaDoorPlays
namespace Go.Le
open Go Go.RowKit
/-- an element of a script: five cells -/
structure OpAt (w : World) (b o : Nat) (kd no av cv : Int) (sa : Option Addr) (m sc : Nat) : Prop where
  c0 : w.cell? ⟨b, o, none⟩ = some (.int .i64 kd)
  c1 : w.cell? ⟨b, o + 1, none⟩ = some (.int .i64 no)
  c2 : w.cell? ⟨b, o + 2, none⟩ = some (.int .i64 av)
  c3 : w.cell? ⟨b, o + 3, none⟩ = some (.int .i64 cv)
  c4 : w.cell? ⟨b, o + 4, none⟩ = some (.slice sa m sc)
theorem OpAt.fr {w w' : World} {b o : Nat} {kd no av cv : Int} {sa : Option Addr} {m sc : Nat} (h : OpAt w b o kd no av cv sa m sc) {B : Nat} (hf : Fr B [] w w') (hb : b < B) : OpAt w' b o kd no av cv sa m sc :=
  ⟨by rw [hf.cell (by exact hb) (by simp)]; exact h.c0, by rw [hf.cell (by exact hb) (by simp)]; exact h.c1, by rw [hf.cell (by exact hb) (by simp)]; exact h.c2, by rw [hf.cell (by exact hb) (by simp)]; exact h.c3, by rw [hf.cell (by exact hb) (by simp)]; exact h.c4⟩
/-- a script -/
def Script (w : World) (a : Option Addr) (n : Nat) : Prop :=
  ∀ i, i < n → ∃ b o kd no av cv sa m sc l, a = some ⟨b, o, none⟩ ∧ b < w.heap.size ∧ OpAt w b (o + i * 5) kd no av cv sa m sc ∧ Sl w sa m sc (byts l) ∧ m ≤ 1048576
end Go.Le
namespace Go.Proofs.YtipmfbpomhcfcaaDoor
open Go Go.RowKit Go.Le
set_option maxRecDepth 100000 in
set_option maxHeartbeats 2000000 in
theorem pageExact_any (w : World) (ht : Tabled w) (a : Option Addr) (n c : Nat) (hn : n ≤ c) (hc : c ≤ 9223372036854775807) (hs : Script w a n) :
    Calls Tryd.prog 4 #[.slice a n c] w fun e w' => e = .returned (.bool true) ∧ Fr w.heap.size [] w w' := by
  have hpos : 1 ≤ w.heap.size := by
    have := World.block_lt_of_cell? w _ (ht 0 (by omega))
    simp only at this
    omega
  have HS := hid hs
  have HT := hid ht
  clear hs ht
  go_enter Tryd.func4, Tryd.ntmps4
  go_wp2_with fail
  obtain ⟨w0, hw0⟩ : ∃ x, x = w.alloc (.cells #[.slice none 0 0, .slice none 0 0] 31) := ⟨_, rfl⟩
  rw [← hw0]
  have hb0 : Blk w0 w.heap.size 31 [.slice none 0 0, .slice none 0 0] := by rw [hw0]; exact Blk.new _ _ _
  have hf0 : Fr w.heap.size [] w w0 := by rw [hw0]; exact (by repeat (first | exact Fr.refl _ _ _ | assumption | apply Fr.drew | (refine Fr.drewN ?_ _) | (refine Fr.alloc ?_ (by first | omega | (simp; done) | (simp; omega)) _) | (refine Fr.setCell ?_ (by first | (left; simp; done) | (right; simp; done) | (right; simp; omega)) _)))
  have hs0 : w0.heap.size = w.heap.size + 1 := by rw [hw0]; simp
  have hbk0 : Bk w0 w.heap.size w0.heap.size w.heap.size 0 :=
    ⟨none, 0, 0, none, 0, [], [], hb0, Ow.nil _ _ _, Ow.nil _ _ _, Nat.le_refl _, Nat.le_refl _, by omega, fun x hx => by simp [blk] at hx, fun x hx => by simp [blk] at hx, fun i hi => by omega⟩
  have HBK0 := hid hbk0
  have FE : Hid (mkErr 3 2 ([1, 2, 3] : List UInt8).length = 0 ∧ opCount 3 (mkPage 3 2 [1, 2, 3]) = 2 ∧ opErr 3 (mkPage 3 2 [1, 2, 3]) = 0 ∧ opCont 3 (mkPage 3 2 [1, 2, 3]) = [1, 2, 3]) := by
    have e : mkPage 3 2 [1, 2, 3] = pgMade 2 3 2 [1, 2, 3] := rfl
    rw [e]
    refine ⟨rfl, made_count 3 2 [1, 2, 3] (by omega) (by omega) (by decide), ?_, made_cont 3 2 [1, 2, 3] (by omega) (by omega) (by decide)⟩
    have := made_open 3 2 [1, 2, 3] (by omega) (by omega) (by decide) 3
    simpa using this
  clear hw0 hb0 hbk0
  go_loopw [4] (fun i wr => ∃ k : Nat, k ≤ n ∧ k ≤ 20 ∧ i = .int .i64 k ∧ Bk wr w.heap.size wr.heap.size w.heap.size (2 * k) ∧ Fr w.heap.size [] w wr) (fun i _ => n - (intOf i).toNat)
  case atStart => exact ⟨0, by omega, by omega, rfl, HBK0.out, hf0⟩
  case round =>
    obtain ⟨k, hk, hk20, rfl, hbk, hfr⟩ := hrel
    have BK := hid hbk
    have htr : Hid (Tabled wr) := HT.out.fr hfr hpos (by simp)
    clear hbk
    by_cases hlt : k < n
    · by_cases h20 : k < 20
      · obtain ⟨b, o, kd, no, av, cv, sa, m, sc, l, rfl, hb, hop, hl, hm⟩ := HS.out k hlt
        have hop2 := hop.fr hfr hb
        obtain ⟨c0, c1, c2, c3, c4⟩ := hop2
        have SL : Hid (Sl wr sa m sc (byts l)) := hl.fr0 hfr (fun h0 p hp => ⟨hl.lt h0 p hp, by simp⟩)
        have SA : Hid (0 < m → ∀ p, sa = some p → p.block < wr.heap.size ∧ (p.block < w.heap.size ∨ wr.heap.size ≤ p.block)) := fun h0 p hp => by
          have := hl.lt h0 p hp
          have := hfr.size
          exact ⟨by omega, .inl (by omega)⟩
        clear hl hop
        go_wp2_with (first | (go_at_call 10; refine (plays_any _ htr.out _ _ _ _ BK.out (by omega) (Nat.le_refl _) hpos kd no av cv _ _ _ l SL.out hm SA).mono ?_; rintro e w2 ⟨rfl, hbk2, hf2⟩; dsimp only) | (go_at_call 11; refine (Holds_any _ _ _ _ _ hbk2 (by omega)).mono ?_; rintro e w3 ⟨rfl, hf3⟩; dsimp only))
        go_roundw
        case rel => 
          have hf23 : Fr w.heap.size [] w w3 := (hfr.trans hf2).call (k := hf3) (hB := (hfr.trans hf2).size) (hS := by simp)
          exact ⟨k + 1, by omega, by omega, by go_num, hbk2.fr hf3 (Nat.le_refl _) (by simp) hf3.size (by omega), hf23⟩
        case measure => simp [intOf] <;> omega
      · obtain rfl : k = 20 := by omega
        go_wp2_with fail
        refine (Make_any 3 2 _ _ _ [1, 2, 3] _ (htr.out.ext (by repeat (first | exact Fr.refl _ _ _ | assumption | apply Fr.drew | (refine Fr.drewN ?_ _) | (refine Fr.alloc ?_ (by first | omega | (simp; done) | (simp; omega)) _) | (refine Fr.setCell ?_ (by first | (left; simp; done) | (right; simp; done) | (right; simp; omega)) _)))) (Blk.sl_all (cs := byts [1, 2, 3]) (by repeat (first | assumption | apply Blk.drew | exact Blk.new' _ _ (by first | rfl | (simp; done) | (simp; omega)) | apply Blk.alloc)) 3 rfl (by omega))).mono ?_
        rw [FE.out.1]
        rintro e w2 ⟨l1, n1, c1, rfl, how2, hf2⟩
        have hf2' : Fr wr.heap.size [] wr w2 := Fr.call (k := hf2) (h := (by repeat (first | exact Fr.refl _ _ _ | assumption | apply Fr.drew | (refine Fr.drewN ?_ _) | (refine Fr.alloc ?_ (by first | omega | (simp; done) | (simp; omega)) _) | (refine Fr.setCell ?_ (by first | (left; simp; done) | (right; simp; done) | (right; simp; omega)) _)))) (hB := by simp) (hS := by simp)
        dsimp only
        go_wp2_with fail
        refine (Open_any 3 _ _ _ (mkPage 3 2 [1, 2, 3]) _ (htr.out.ext hf2') how2.sl).mono ?_
        rw [FE.out.2.1, FE.out.2.2.1, FE.out.2.2.2]
        rintro e w3 ⟨l2, n2, c2, rfl, how3, hf3⟩
        have hf3' : Fr wr.heap.size [] wr w3 := Fr.call' (k := hf3) (h := hf2') (hS := by simp)
        have sz3 := hf3'.size
        have ht3 := hid (htr.out.ext hf3')
        have bk3 := hid (BK.out.fr hf3' (Nat.le_refl _) (by simp) (Nat.le_refl _) (Nat.le_refl _))
        have hfw3 : Fr w.heap.size [] w w3 := hfr.call (k := hf3') (hB := hfr.size) (hS := by simp)
        have szw := hfw3.size
        dsimp only
        go_wp2_with (first | (go_at_call 14; go_loud (refine (Eq_any _ _ _ _ _ _ [1, 2, 3] [1, 2, 3] _ (how3.sl.ext (by repeat (first | exact Fr.refl _ _ _ | assumption | apply Fr.drew | (refine Fr.drewN ?_ _) | (refine Fr.alloc ?_ (by first | omega | (simp; done) | (simp; omega)) _) | (refine Fr.setCell ?_ (by first | (left; simp; done) | (right; simp; done) | (right; simp; omega)) _)))) (Blk.sl_all (cs := byts [1, 2, 3]) (by repeat (first | assumption | apply Blk.drew | exact Blk.new' _ _ (by first | rfl | (simp; done) | (simp; omega)) | apply Blk.alloc)) 3 rfl (by omega))).mono ?_; rintro e w' ⟨rfl, rfl⟩; rw [show (([1, 2, 3] : List UInt8) == [1, 2, 3]) = true from rfl]; dsimp only)) | (go_at_call 10; go_loud (refine (plays_any _ (ht3.out.ext (by repeat (first | exact Fr.refl _ _ _ | assumption | apply Fr.drew | (refine Fr.drewN ?_ _) | (refine Fr.alloc ?_ (by first | omega | (simp; done) | (simp; omega)) _) | (refine Fr.setCell ?_ (by first | (left; simp; done) | (right; simp; done) | (right; simp; omega)) _)))) _ _ _ _ (bk3.out.fr (B' := w3.heap.size) (S := []) (by repeat (first | exact Fr.refl _ _ _ | assumption | apply Fr.drew | (refine Fr.drewN ?_ _) | (refine Fr.alloc ?_ (by first | omega | (simp; done) | (simp; omega)) _) | (refine Fr.setCell ?_ (by first | (left; simp; done) | (right; simp; done) | (right; simp; omega)) _))) sz3 (by simp) (Nat.le_refl _) (Nat.le_refl _)) (by omega) (by simp; omega) hpos 2 1 1 0 _ _ _ [7] (Blk.sl_all (cs := byts [7]) (by repeat (first | assumption | apply Blk.drew | exact Blk.new' _ _ (by first | rfl | (simp; done) | (simp; omega)) | apply Blk.alloc)) 1 rfl (by omega)) (by omega) (fun _ p hp => by cases hp; exact ⟨by simp, .inr (by simp; omega)⟩)).mono ?_; rintro e w5 ⟨rfl, hbk5, hf5⟩; dsimp only)) | (go_at_call 11; refine (Holds_any _ _ _ _ _ hbk5 (by omega)).mono ?_; rintro e w6 ⟨rfl, hf6⟩; dsimp only))
        go_ret
        have hf45 : Fr w.heap.size [] w w5 := Fr.trans ((by repeat (first | exact Fr.refl _ _ _ | assumption | apply Fr.drew | (refine Fr.drewN ?_ _) | (refine Fr.alloc ?_ (by first | omega | (simp; done) | (simp; omega)) _) | (refine Fr.setCell ?_ (by first | (left; simp; done) | (right; simp; done) | (right; simp; omega)) _)))) hf5
        exact ⟨rfl, hf45.call (k := hf6) (hB := hf45.size) (hS := by simp)⟩
    · obtain rfl : k = n := by omega
      go_wp2_with fail
      refine (Make_any 3 2 _ _ _ [1, 2, 3] _ (htr.out.ext (by repeat (first | exact Fr.refl _ _ _ | assumption | apply Fr.drew | (refine Fr.drewN ?_ _) | (refine Fr.alloc ?_ (by first | omega | (simp; done) | (simp; omega)) _) | (refine Fr.setCell ?_ (by first | (left; simp; done) | (right; simp; done) | (right; simp; omega)) _)))) (Blk.sl_all (cs := byts [1, 2, 3]) (by repeat (first | assumption | apply Blk.drew | exact Blk.new' _ _ (by first | rfl | (simp; done) | (simp; omega)) | apply Blk.alloc)) 3 rfl (by omega))).mono ?_
      rw [FE.out.1]
      rintro e w2 ⟨l1, n1, c1, rfl, how2, hf2⟩
      have hf2' : Fr wr.heap.size [] wr w2 := Fr.call (k := hf2) (h := (by repeat (first | exact Fr.refl _ _ _ | assumption | apply Fr.drew | (refine Fr.drewN ?_ _) | (refine Fr.alloc ?_ (by first | omega | (simp; done) | (simp; omega)) _) | (refine Fr.setCell ?_ (by first | (left; simp; done) | (right; simp; done) | (right; simp; omega)) _)))) (hB := by simp) (hS := by simp)
      dsimp only
      go_wp2_with fail
      refine (Open_any 3 _ _ _ (mkPage 3 2 [1, 2, 3]) _ (htr.out.ext hf2') how2.sl).mono ?_
      rw [FE.out.2.1, FE.out.2.2.1, FE.out.2.2.2]
      rintro e w3 ⟨l2, n2, c2, rfl, how3, hf3⟩
      have hf3' : Fr wr.heap.size [] wr w3 := Fr.call' (k := hf3) (h := hf2') (hS := by simp)
      have sz3 := hf3'.size
      have ht3 := hid (htr.out.ext hf3')
      have bk3 := hid (BK.out.fr hf3' (Nat.le_refl _) (by simp) (Nat.le_refl _) (Nat.le_refl _))
      have hfw3 : Fr w.heap.size [] w w3 := hfr.call (k := hf3') (hB := hfr.size) (hS := by simp)
      have szw := hfw3.size
      dsimp only
      go_wp2_with (first | (go_at_call 14; go_loud (refine (Eq_any _ _ _ _ _ _ [1, 2, 3] [1, 2, 3] _ (how3.sl.ext (by repeat (first | exact Fr.refl _ _ _ | assumption | apply Fr.drew | (refine Fr.drewN ?_ _) | (refine Fr.alloc ?_ (by first | omega | (simp; done) | (simp; omega)) _) | (refine Fr.setCell ?_ (by first | (left; simp; done) | (right; simp; done) | (right; simp; omega)) _)))) (Blk.sl_all (cs := byts [1, 2, 3]) (by repeat (first | assumption | apply Blk.drew | exact Blk.new' _ _ (by first | rfl | (simp; done) | (simp; omega)) | apply Blk.alloc)) 3 rfl (by omega))).mono ?_; rintro e w' ⟨rfl, rfl⟩; rw [show (([1, 2, 3] : List UInt8) == [1, 2, 3]) = true from rfl]; dsimp only)) | (go_at_call 10; go_loud (refine (plays_any _ (ht3.out.ext (by repeat (first | exact Fr.refl _ _ _ | assumption | apply Fr.drew | (refine Fr.drewN ?_ _) | (refine Fr.alloc ?_ (by first | omega | (simp; done) | (simp; omega)) _) | (refine Fr.setCell ?_ (by first | (left; simp; done) | (right; simp; done) | (right; simp; omega)) _)))) _ _ _ _ (bk3.out.fr (B' := w3.heap.size) (S := []) (by repeat (first | exact Fr.refl _ _ _ | assumption | apply Fr.drew | (refine Fr.drewN ?_ _) | (refine Fr.alloc ?_ (by first | omega | (simp; done) | (simp; omega)) _) | (refine Fr.setCell ?_ (by first | (left; simp; done) | (right; simp; done) | (right; simp; omega)) _))) sz3 (by simp) (Nat.le_refl _) (Nat.le_refl _)) (by omega) (by simp; omega) hpos 2 1 1 0 _ _ _ [7] (Blk.sl_all (cs := byts [7]) (by repeat (first | assumption | apply Blk.drew | exact Blk.new' _ _ (by first | rfl | (simp; done) | (simp; omega)) | apply Blk.alloc)) 1 rfl (by omega)) (by omega) (fun _ p hp => by cases hp; exact ⟨by simp, .inr (by simp; omega)⟩)).mono ?_; rintro e w5 ⟨rfl, hbk5, hf5⟩; dsimp only)) | (go_at_call 11; refine (Holds_any _ _ _ _ _ hbk5 (by omega)).mono ?_; rintro e w6 ⟨rfl, hf6⟩; dsimp only))
      go_ret
      have hf45 : Fr w.heap.size [] w w5 := Fr.trans ((by repeat (first | exact Fr.refl _ _ _ | assumption | apply Fr.drew | (refine Fr.drewN ?_ _) | (refine Fr.alloc ?_ (by first | omega | (simp; done) | (simp; omega)) _) | (refine Fr.setCell ?_ (by first | (left; simp; done) | (right; simp; done) | (right; simp; omega)) _)))) hf5
      exact ⟨rfl, hf45.call (k := hf6) (hB := hf45.size) (hS := by simp)⟩
end Go.Proofs.YtipmfbpomhcfcaaDoor
