/- SectorsNames, walked. -/
import Derived.Test.YtpdppacafkdgdaaRf1
namespace Go.Proofs.Ytpdppacafkdgdaa
open Go Go.RowKit Go.Le
set_option maxHeartbeats 1000000 in
theorem names_any (w : World) : Calls Try.prog 4 #[] w fun e w' => e = .returned (.bool true) ∧ Fr w.heap.size [] w w' := by
  go_enter Try.func4, Try.ntmps4
  go_wp2_with fail
  refine (made_new w w emp (Mem.start w) 1 (by omega) (by omega)).mono ?_
  rintro e w1 ⟨g1, g2, rfl, hm1⟩
  dsimp only
  have H1 := hid hm1.right.right
  clear hm1
  go_wp2_with fail
  refine (made_new w w1 emp H1.out 4096 (by omega) (by omega)).mono ?_
  rintro e w2 ⟨g3, g4, rfl, hm2⟩
  dsimp only
  have H2 := hid hm2.right.right
  clear hm2
  go_wp2_with fail
  refine (made_no w2 4097 (by omega) (by omega) (by omega)).mono ?_
  rintro e w' ⟨rfl, rfl⟩
  dsimp only
  go_wp2_with fail
  refine (fixed_any w w2 emp H2.out).mono ?_
  rintro e w3 ⟨rfl, hm3⟩
  dsimp only
  have H3 := hid hm3.base
  clear hm3
  go_wp2_with fail
  go_ret
  exact ⟨rfl, H3.out⟩
end Go.Proofs.Ytpdppacafkdgdaa
