/- WalNames, walked. -/
import Derived.Test.YtpaebopmppbjbaaWal20M
set_option linter.unusedVariables false
set_option linter.unusedSimpArgs false
namespace Go.Proofs.Ytpaebopmppbjbaa
open Go Go.RowKit Go.Le

set_option maxRecDepth 20000 in
set_option maxHeartbeats 4000000 in
theorem walNames_any (w : World) (n : Int) (hn1 : -9223372036854775808 ≤ n) (hn2 : n ≤ 9223372036854775807) :
    Calls Try.prog 3 #[.int .i64 n] w fun e w' => e = .returned (.bool true) ∧ Fr w.heap.size [] w w' := by
  have HR1 := hid (fun w => Room_any w n hn1 hn2)
  have HR2 := hid (fun w => refRoom_any w n hn1 hn2)
  have HN1 := hid (fun w => Need_any w n)
  have HN2 := hid (fun w => refNeed_any w n)
  have R1 := hid (fun w => Room_any w 1000 (by omega) (by omega))
  have R2 := hid (fun w => Room_any w 1001 (by omega) (by omega))
  have R3 := hid (fun w => Room_any w 4 (by omega) (by omega))
  have N1 := hid (fun w => Need_any w 250)
  rw [show ((roomOf (1000 : Int).toNat : Nat) : Int) = 249 from rfl] at R1
  rw [show ((roomOf (1001 : Int).toNat : Nat) : Int) = 250 from rfl] at R2
  rw [show ((roomOf (4 : Int).toNat : Nat) : Int) = 0 from rfl] at R3
  rw [show needOf 250 = 1001 from rfl] at N1
  have HO := hid (Open_nil w w emp (Mem.start w))
  generalize roomOf n.toNat = rn at *
  generalize needOf n = nn at *
  go_enter Try.func3, Try.ntmps3
  go_wp2_with fail
  refine HO.out.mono ?_
  rintro e w1 ⟨v1, rfl, hm1⟩
  dsimp only
  have HC := hid (Clear_nil w w1 _ hm1)
  clear HO hm1
  go_wp2_with fail
  refine HC.out.mono ?_
  rintro e w2 ⟨v2, rfl, hm2⟩
  dsimp only
  have HF := hid (fixed_any w w2 _ hm2)
  clear HC hm2
  go_wp2_with fail
  refine HF.out.mono ?_
  rintro e w3 ⟨rfl, hm3⟩
  dsimp only
  have HT := hid (told_fault w w3 _ _ 3 (by omega) v1 hm3.p1)
  clear HF hm3
  go_wp2_with fail
  refine HT.out.mono ?_
  rintro e w4 ⟨rfl, hm4⟩
  dsimp only
  have HT2 := hid (told_fault w w4 _ _ 3 (by omega) v2 hm4.p1)
  clear HT hm4
  go_wp2_with fail
  refine HT2.out.mono ?_
  rintro e w5 ⟨rfl, hm5⟩
  dsimp only
  have HB := hid hm5.base
  clear HT2 hm5
  go_wp2_with fail
  refine (HR1.out _).mono ?_
  rintro e w' ⟨rfl, rfl⟩
  dsimp only
  go_wp2_with fail
  refine (HR2.out _).mono ?_
  rintro e w' ⟨rfl, rfl⟩
  dsimp only
  go_wp2_with fail
  refine (HN1.out _).mono ?_
  rintro e w' ⟨rfl, rfl⟩
  dsimp only
  go_wp2_with fail
  refine (HN2.out _).mono ?_
  rintro e w' ⟨rfl, rfl⟩
  dsimp only
  go_wp2_with fail
  refine (R1.out _).mono ?_
  rintro e w' ⟨rfl, rfl⟩
  dsimp only
  go_wp2_with fail
  refine (R2.out _).mono ?_
  rintro e w' ⟨rfl, rfl⟩
  dsimp only
  go_wp2_with fail
  refine (R3.out _).mono ?_
  rintro e w' ⟨rfl, rfl⟩
  dsimp only
  go_wp2_with fail
  refine (N1.out _).mono ?_
  rintro e w' ⟨rfl, rfl⟩
  dsimp only
  go_wp2_with fail
  go_ret
  exact ⟨rfl, HB.out⟩
end Go.Proofs.Ytpaebopmppbjbaa
