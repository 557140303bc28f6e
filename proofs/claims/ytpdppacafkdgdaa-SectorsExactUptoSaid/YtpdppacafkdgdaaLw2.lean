/- The laws' fixed: two writes, one flushed, one kept by a crash in part. -/
import Derived.Test.YtpdppacafkdgdaaLw1
set_option linter.unusedVariables false
set_option linter.unusedSimpArgs false
namespace Go.Le
open Go Go.RowKit
def fx0 : Dev := Dev.fresh (zrs (2 * 512))
def fx1 : Dev := (fx0.write 0 (secFill 97 [])).1
def fx2 : Dev := fx1.flush.1
def fx3 : Dev := (fx2.write 0 (secFill 98 [])).1
def fx4 : Dev := (fx3.crash ⟨[], 0, 2⟩).1
theorem fx_facts : (fx0.write 0 (secFill 97 [])).2 = 0 ∧ fx1.flush.2 = 0 ∧ (fx2.write 0 (secFill 98 [])).2 = 0 ∧ (fx3.crash ⟨[], 0, 2⟩).2 = 0 ∧ fx4.img.length = 1024 ∧ fx4.img.take 3 = [98, 98, 97] ∧ fx4.img[512]? = some 0 ∧ fx4.down = true ∧
    fx0.pend.length = 0 ∧ fx1.pend.length = 1 ∧ fx2.pend.length = 0 ∧ fx3.pend.length = 1 ∧ fx4.loss.keep.length = 0 := by decide +kernel
end Go.Le
namespace Go.Proofs.Ytpdppacafkdgdaa
open Go Go.RowKit Go.Le

set_option maxRecDepth 20000 in
set_option maxHeartbeats 1000000 in
theorem fixed_any (wb w : World) (R : HP) (h : Mem wb w R) :
    Calls Try.prog 10 #[] w fun e w' => e = .returned (.bool true) ∧ Mem wb w' R := by
  have H := hid h
  have FX := hid fx_facts
  clear h
  go_enter Try.func10, Try.ntmps10
  go_wp2_with fail
  refine (New_any wb _ R H.out 2 (by omega) (by omega)).mono ?_
  rintro e w1 ⟨g, rfl, hm1⟩
  dsimp only
  go_wp2_with fail
  refine (lawSector_any wb _ _ hm1 97 none 0 0 [] (Sl.nil' _)).mono ?_
  rintro e w2 ⟨a2, rfl, -, hm2, -⟩
  dsimp only
  go_wp2_with fail
  refine (Write_any wb _ _ g fx0 hm2.p1 (by rw [FX.out.2.2.2.2.2.2.2.2.1]; omega) 0 (by omega) (by omega) _ _ _ (secFill 97 []) hm2.row_sl).mono ?_
  rintro e w3 ⟨rfl, hm3⟩
  rw [FX.out.1]
  dsimp only
  go_wp2_with fail
  refine (Flush_any wb _ R g fx1 hm3.p1.right (by rw [FX.out.2.2.2.2.2.2.2.2.2.1]; omega)).mono ?_
  rintro e w4 ⟨rfl, hm4⟩
  rw [FX.out.2.1]
  dsimp only
  go_wp2_with fail
  refine (lawSector_any wb _ _ hm4 98 none 0 0 [] (Sl.nil' _)).mono ?_
  rintro e w5 ⟨a5, rfl, -, hm5, -⟩
  dsimp only
  go_wp2_with fail
  refine (Write_any wb _ _ g fx2 hm5.p1 (by rw [FX.out.2.2.2.2.2.2.2.2.2.2.1]; omega) 0 (by omega) (by omega) _ _ _ (secFill 98 []) hm5.row_sl).mono ?_
  rintro e w6 ⟨rfl, hm6⟩
  rw [FX.out.2.2.1]
  dsimp only
  go_wp2_with fail
  refine (Crash_any wb _ R g fx3 hm6.p1.right (by rw [FX.out.2.2.2.2.2.2.2.2.2.2.2.1]; omega) ⟨[], 0, 2⟩ none 0 (fun w' _ => Sl.nil' w') ⟨by simp, by simp, by simp⟩).mono ?_
  rintro e w7 ⟨rfl, hm7⟩
  rw [FX.out.2.2.2.1]
  dsimp only
  go_wp2_with fail
  obtain ⟨hok, ka, kc, hm8⟩ := Mem.devAt.1 hm7
  refine (Image_any wb _ _ g fx4 ka _ kc hm8 hok).mono ?_
  rintro e w9 ⟨a9, c9, rfl, hm9⟩
  have hD := hid (Down_any wb w9 _ g fx4 ka _ kc hm9.p1)
  have hM := hid hm9.right.right.right
  have hS := hm9.row_sl
  clear hm9 hm8 hok hm7 hm6 hm5 hm4 hm3 hm2 hm1
  have hlen := FX.out.2.2.2.2.1
  rw [FX.out.2.2.2.2.1] at hS ⊢
  obtain ⟨b9, o9, rfl⟩ := hS.addr (by omega)
  have hc := hS.at 512 (by omega)
  have hi9 : (byts fx4.img)[512]'(by rw [byts_length, FX.out.2.2.2.2.1]; omega) = .int .u8 0 := by
    have h5 := FX.out.2.2.2.2.2.2.1
    have h6 : (byts fx4.img)[512]? = some (.int .u8 0) := by rw [byts, List.getElem?_map, h5]; rfl
    exact (List.getElem?_eq_some_iff.1 h6).2
  rw [hi9] at hc
  have hst := (hS.take 3 (by omega))
  rw [byts_take, FX.out.2.2.2.2.2.1] at hst
  have hstr := hst.str (P := Try.prog) 34 9 5 Try.underlying34 Try.underlying5 Try.underlying9
  have hcap := hS.cap
  have hle := hS.le
  have FD : Hid (fx4.down = true) := FX.out.2.2.2.2.2.2.2.1
  clear hS hst hlen hi9 FX
  dsimp only
  go_wp2_with (go_at_call 25; refine hD.out.mono ?_; rintro e w' ⟨rfl, rfl⟩; rw [FD.out]; dsimp only)
  go_ret
  exact ⟨rfl, hM.out⟩
end Go.Proofs.Ytpdppacafkdgdaa
