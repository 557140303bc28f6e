/- The walk of fixed(). -/
import Derived.Test.YtpaebopmppbjbaaWal23
set_option linter.unusedVariables false
set_option linter.unusedSimpArgs false
namespace Go.Proofs.Ytpaebopmppbjbaa
open Go Go.RowKit Go.Le

def pz1 (gb : Nat) : List Pz := [((1, pgBytes 1 7), (some ⟨gb, 0, none⟩, 1024))]
theorem pz1_cells (gb : Nat) : pzCells (pz1 gb) = [.int .i64 1, .slice (some ⟨gb, 0, none⟩) 1024 1024] := by
  unfold pzCells pz1
  simp only [List.flatMap_cons, List.flatMap_nil, List.append_nil]
  rw [pgBytes_length]
  rfl

set_option maxRecDepth 20000 in
set_option maxHeartbeats 4000000 in
theorem fixed_any (wb w : World) (R : HP) (h : Mem wb w R) :
    Calls Try.prog 7 #[] w fun e w' => e = .returned (.bool true) ∧ Mem wb w' R := by
  obtain ⟨D1, D2, pg, D3, f1, f2, f3, f4, f5, f6, f7, f8, f9, f10⟩ := fixed_io
  have F1 := hid f1
  have F2 := hid f2
  have F3 := hid f3
  have F4 := hid f4
  have F5 := hid f5
  have F6 := hid f6
  have F7 := hid f7
  have F8 := hid f8
  have F9 := hid f9
  have F10 := hid f10
  have HNW := hid (New_any wb w R h 9 (by omega) (by omega))
  clear h f1 f2 f3 f4 f5 f6 f7 f8 f9 f10
  go_enter Try.func7, Try.ntmps7
  go_wp2_with fail
  refine HNW.out.mono ?_
  rintro e w1 ⟨g, rfl, hm1⟩
  dsimp only
  have hpl : (Dev.fresh (zrs (9 * 512))).pend.length ≤ 700000000 := by show ([] : List (Nat × List UInt8)).length ≤ _; simp
  have HOP := Open_any wb w1 R g _ hm1 hpl
  rw [F1.out] at HOP
  have HOP := hid HOP
  clear HNW hm1 hpl
  go_wp2_with fail
  refine HOP.out.mono ?_
  rintro e w2 ⟨gl, rfl, hm2⟩
  dsimp only
  have HPG := hid (Pages_any wb w2 _ g 2 gl .nilIface hm2)
  have hms := hm2.alloc [.int .i64 ((1 : Nat) : Int), .int .u8 ((7 : UInt8).toNat : Int), .int .i64 0] 71
  have HL := list1_any wb _ _ w2.heap.size 1 (by omega) 7 hms
  rw [show ((1 : Nat) : Int) = 1 from rfl, show ((7 : UInt8).toNat : Int) = 7 from rfl] at HL
  have HL := hid HL
  clear HOP hm2 hms
  go_wp2_with (go_at_call 30; refine HPG.out.mono ?_; rintro e w' ⟨rfl, rfl⟩; dsimp only)
  refine HL.out.mono ?_
  rintro e w3 ⟨a, c, gb, rfl, hm3⟩
  dsimp only
  obtain ⟨b2, rest, rfl, r1, r2, r3, r4, -⟩ := hm3.row_at (by omega)
  rw [← pz1_cells] at hm3
  have HCO := Commit_any wb w3 (row 98 2 (some ⟨b2, 0, none⟩) 1 c (pzCells (pz1 gb)) * (pts gb 5 (byts (pgBytes 1 7)) * (pts w2.heap.size 71 [.int .i64 1, .int .u8 7, .int .i64 0] * R))) g gl 2 1 b2 c (pz1 gb) (pz1 gb) D1
    (hm3.eq (by ac_rfl)) (by have := F2.out; omega) (by omega) rfl (by omega) (by omega) (by unfold pz1; simp only [List.map_cons, List.map_nil]; rw [pgBytes_length]; rfl)
    (fun z hz => by
      simp only [pz1, List.mem_cons, List.not_mem_nil, or_false] at hz
      subst hz
      exact ⟨by show 1 < 2; omega, pgBytes_length 1 7⟩)
    (fun w' h' => ⟨h'.pgs, fun z hz => by
      simp only [pz1, List.mem_cons, List.not_mem_nil, or_false] at hz
      subst hz
      exact h'.right.blk.1.sl_all 1024 (by rw [byts_length]; exact pgBytes_length 1 7) (by omega)⟩) rfl (fun z hz => hz)
    (fun w R' b2 c2 hm => (sort1_any w b2 c2 _).mono fun e w' ⟨he, hw⟩ => ⟨he, by rw [hw]; exact hm⟩)
  rw [show (pz1 gb).map (·.1) = [(1, pgBytes 1 7)] from rfl, F3.out] at HCO
  have HCO := hid HCO
  clear HL hm3 r1 r4
  go_wp2_with fail
  refine HCO.out.mono ?_
  rintro e w4 ⟨rfl, hm4⟩
  dsimp only
  have HRD := hid (Read_ok wb w4 _ g gl 2 1 D2 hm4 (by have := F4.out; omega) (by omega) (by omega) pg D3 F8.out)
  clear HCO hm4
  go_wp2_with fail
  refine HRD.out.mono ?_
  rintro e w5 ⟨ap, rfl, hD, hpl, hm5⟩
  dsimp only
  obtain rfl : D2 = D3 := hD.symm
  rw [F9.out] at hm5
  have hsl := hm5.row_sl
  obtain ⟨bp, op, rfl⟩ := hsl.addr (by omega)
  have hp5 := hsl.at 5 (by omega)
  have e5 : (byts pg)[5]'(by rw [byts_length, F9.out]; omega) = .int .u8 7 := by
    have h1 := F10.out
    have h2 : 5 < pg.length := by rw [F9.out]; omega
    simp only [List.getD, List.getElem?_eq_getElem h2, Option.getD_some] at h1
    simp [byts, byt, h1]
  rw [e5] at hp5
  obtain ⟨hok, ka, kc, hd5⟩ := Mem.devAt.1 hm5.p2
  have HIM := hid (Image_any wb w5 _ g D2 ka _ kc hd5 hok)
  have hl9 := F9.out
  rw [hl9]
  clear HRD hm5 hd5 hok hsl e5 hl9 hpl
  go_wp2_with fail
  refine HIM.out.mono ?_
  rintro e w6 ⟨ai, ci, rfl, hm6⟩
  dsimp only
  have hil := F6.out
  rw [hil] at hm6
  have hsi := hm6.row_sl
  obtain ⟨bi, oi, rfl⟩ := hsi.addr (by omega)
  have hpi := hsi.at 3589 (by omega)
  have e6 : (byts D2.img)[3589]'(by rw [byts_length, hil]; omega) = .int .u8 7 := by
    have h1 := F7.out
    have h2 : 3589 < D2.img.length := by rw [hil]; omega
    simp only [List.getD, List.getElem?_eq_getElem h2, Option.getD_some] at h1
    simp [byts, byt, h1]
  rw [e6] at hpi
  have hd6 := hm6.p1
  have HCA := hid (Calls_any wb w6 _ g D2 ka _ kc hd6)
  have hcc := F5.out
  rw [hcc] at HCA
  have HMF := hid (hm6.right.right)
  rw [hil]
  clear HIM hm6 hsi hd6 e6 hil hcc
  go_wp2_with fail
  refine HCA.out.mono ?_
  rintro e w7 ⟨rfl, rfl⟩
  dsimp only
  go_wp2_with fail
  go_ret
  exact ⟨rfl, HMF.out.right.right.right.right.right.right⟩
end Go.Proofs.Ytpaebopmppbjbaa
