/- The walk of SectorsImage. -/
import Derived.Test.YtpdppacafkdgdaaImgP
import Derived.Test.YtpdppacafkdgdaaImgQ
set_option linter.unusedVariables false
set_option linter.unusedSimpArgs false
namespace Go.Proofs.Ytpdppacafkdgdaa
open Go Go.RowKit Go.Le

set_option maxRecDepth 20000 in
set_option maxHeartbeats 4000000 in
theorem image_any (W : World) (a1 a2 : Option Addr) (n1 c1 n2 c2 : Nat) (hn1 : n1 ≤ c1) (hc1 : c1 ≤ 9223372036854775807) (hn2 : n2 ≤ c2) (hc2 : c2 ≤ 9223372036854775807) (hs1 : ScriptS W a1 n1 1048576) (hs2 : ScriptS W a2 n2 1048576) :
    Calls Try.prog 7 #[.slice a1 n1 c1, .slice a2 n2 c2] W fun e w' => e = .returned (.bool true) ∧ Fr W.heap.size [] W w' := by
  have HS1 := hid hs1
  have HS2 := hid hs2
  clear hs1 hs2
  go_enter Try.func7, Try.ntmps7
  go_wp2_with fail
  refine (New_any W W emp (Mem.start W) 4 (by omega) (by omega)).mono ?_
  rintro e w1 ⟨gd, rfl, hm1⟩
  dsimp only
  have HFX := hid (fixed_any W w1 _ hm1)
  clear hm1
  go_wp2_with (go_at_call 10; refine HFX.out.mono ?_; rintro e w2 ⟨rfl, hm2⟩; dsimp only)
  have HM2 := hid hm2
  clear hm2 HFX
  go_wp2_with fail
  go_loopw [7] (fun i wr => ∃ (k : Nat) (D : Dev), k ≤ n1 ∧ k ≤ 200 ∧ i = .int .i64 k ∧ D.pend.length ≤ k ∧ Mem W wr (devAt T8 gd D * emp)) (fun i _ => n1 - (intOf i).toNat)
  case atStart => exact ⟨0, _, by omega, by omega, rfl, by simp [Dev.fresh], HM2.out⟩
  case round =>
    obtain ⟨k, D, hk, hk2, rfl, hpl, hm⟩ := hrel
    clear HM2
    by_cases hlt : k < n1 ∧ k < 200
    · obtain ⟨hlt, hlt2⟩ := hlt
      obtain ⟨b, o, S, rfl, hb, hcell, hok, hkl⟩ := HS1.out k hlt
      have hfr := hm.1
      have cells : ∀ j v, j < 8 → S.cells[j]? = some v → wr.cell? ⟨b, o + k * 8 + j, none⟩ = some v := fun j v hj hv => Fr.cell_ext hfr (by rw [hcell j hj, hv])
      have q0 := cells 0 _ (by omega) rfl
      rw [Nat.add_zero] at q0
      have q1 := cells 1 _ (by omega) rfl
      have q2 := cells 2 _ (by omega) rfl
      have q3 := cells 3 _ (by omega) rfl
      have q4 := cells 4 _ (by omega) rfl
      have q5 := cells 5 _ (by omega) rfl
      have q6 := cells 6 _ (by omega) rfl
      have q7 := cells 7 _ (by omega) rfl
      have hcl := call_any W wr emp gd D hm (by omega) S (fun w' h' => hok.ext h'.1) hkl
      unfold CallSays StepV.cells at hcl
      have HCL := hid hcl
      have HPD := hid (callM_pend D S)
      have kn : (k : Int) < (n1 : Int) := by omega
      clear hcell cells hfr hm hcl
      generalize callM D S = r at *
      go_wp2_with fail
      refine HCL.out.mono ?_
      rintro e w5 ⟨rfl, hm'⟩
      dsimp only
      have HM' := hid hm'
      clear hm' HCL q0 q1 q2 q3 q4 q5 q6 q7
      go_wp2_with fail
      go_roundw
      case rel => exact ⟨k + 1, r.1, by omega, by omega, by go_num, by have := HPD.out; omega, HM'.out⟩
      case measure => simp [intOf] <;> omega
    · have hex : k = n1 ∨ ((k : Int) < (n1 : Int) ∧ k = 200) := by omega
      obtain ⟨hok, ka, kc, h1⟩ := Mem.devAt.1 hm
      have HUP := hid (Up_any W _ _ gd D ka _ kc h1)
      have HOK := hid (Dev.up_ok hok)
      obtain ⟨u0, u1, u2⟩ := Alike.loaded D
      have HU1 := hid u1
      have HU2 := hid u2
      have HPL : Hid (D.up.pend.length ≤ 1000000000) := by show D.pend.length ≤ _; omega
      have HU0 := hid u0
      clear hm h1 hok u0 u1 u2 hlt
      have hex2 : ((k : Int) = (n1 : Int)) ∨ ((k : Int) < (n1 : Int) ∧ (k : Int) = 200) := by omega
      clear hex
      generalize (k : Int) = z at *
      rcases hex2 with rfl | ⟨kn, rfl⟩
      all_goals
        go_wp2_with fail
        refine HUP.out.mono ?_
        rintro e w3 ⟨rfl, hm3⟩
        dsimp only
        have HFL := hid (Flush_any W w3 _ gd D.up (Mem.devAt.2 ⟨HOK.out, ka, kc, hm3⟩) HPL.out)
        rw [HU0.out] at HFL
        clear hm3 HUP
        go_wp2_with fail
        refine HFL.out.mono ?_
        rintro e w4 ⟨rfl, hm4⟩
        dsimp only
        obtain ⟨hok4, ka4, kc4, h4⟩ := Mem.devAt.1 hm4
        have HIM := hid (Image_any W w4 _ gd _ ka4 _ kc4 h4 hok4)
        have HOK4 := hid hok4
        have HLN := hid hok4.img
        clear hm4 h4 HFL hok4
        go_wp2_with fail
        refine HIM.out.mono ?_
        rintro e w5 ⟨a5, c5, rfl, hm5⟩
        dsimp only
        have HLD := hid (Load_any W w5 _ (Mem.devAt.2 ⟨HOK4.out, ka4, kc4, hm5.right⟩) a5 _ c5 _ hm5.row_sl HLN.out)
        clear hm5 HIM
        go_wp2_with fail
        refine HLD.out.mono ?_
        rintro e w6 ⟨gc, rfl, hm6⟩
        dsimp only
        have HM6 := hid hm6.p1
        clear hm6 HLD
        go_wp2_with fail
        have hal := HU2.out
        have hp1 := HU1.out
        have hm6 := HM6.out
        clear HU0 HU1 HU2 HPL HOK HOK4 HLN HM6
        generalize D.up.flush.1 = D1 at *
        generalize Dev.fresh D1.img = C1 at *
        have HAL := hid hal
        have HP1 := hid hp1
        have HM6 := hid hm6
        clear hal hp1 hm6
        go_loopw [12] (fun i wr => ∃ (q : Nat) (D C : Dev), q ≤ n2 ∧ q ≤ 200 ∧ i = .int .i64 q ∧ D.pend.length ≤ q ∧ Le.Alike D C ∧ Mem W wr (devAt T8 gd D * (devAt T8 gc C * emp))) (fun i _ => n2 - (intOf i).toNat)
        case atStart => exact ⟨0, D1, C1, by omega, by omega, rfl, by rw [HP1.out]; simp, HAL.out, HM6.out⟩
        case round =>
          obtain ⟨q, D, C, hq, hq2, rfl, hpl, hal, hm⟩ := hrel
          have HAL := hid hal
          clear HM6 hal
          by_cases hlt : q < n2 ∧ q < 200
          · obtain ⟨hlt, hlt2⟩ := hlt
            obtain ⟨b, o, S, rfl, hb, hcell, hok, hkl⟩ := HS2.out q hlt
            have HCELL : Hid (∀ w', Fr W.heap.size [] W w' → ∀ j v, j < 8 → S.cells[j]? = some v → w'.cell? ⟨b, o + q * 8 + j, none⟩ = some v) := fun w' hfr j v hj hv => Fr.cell_ext hfr (by rw [hcell j hj, hv])
            have HOKS := hid hok
            have q0 := HCELL.out _ hm.1 0 _ (by omega) rfl
            rw [Nat.add_zero] at q0
            have q1 := HCELL.out _ hm.1 1 _ (by omega) rfl
            have q2 := HCELL.out _ hm.1 2 _ (by omega) rfl
            have q3 := HCELL.out _ hm.1 3 _ (by omega) rfl
            have q4 := HCELL.out _ hm.1 4 _ (by omega) rfl
            have q5 := HCELL.out _ hm.1 5 _ (by omega) rfl
            have q6 := HCELL.out _ hm.1 6 _ (by omega) rfl
            have q7 := HCELL.out _ hm.1 7 _ (by omega) rfl
            have hcl := call_any W _ _ gd D hm (by omega) S (fun w' h' => hok.ext h'.1) hkl
            unfold CallSays at hcl
            have HCL := hid hcl
            have HPD := hid (callM_pend D S)
            have HAN := hid (HAL.out.call S)
            have HPC : Hid (C.pend.length ≤ 1000) := by show _ ≤ _; rw [← HAL.out.pend]; omega
            have kn : (q : Int) < (n2 : Int) := by omega
            clear hcell hm hcl hok
            generalize callM D S = r at *
            unfold StepV.cells at HCL
            go_wp2_with fail
            refine HCL.out.mono ?_
            rintro e w7 ⟨rfl, hm7⟩
            dsimp only
            have hcl2 := call_any W w7 _ gc C hm7.p1 HPC.out S (fun w' h' => HOKS.out.ext h'.1) hkl
            unfold CallSays at hcl2
            rw [← HAN.out.1] at hcl2
            have HCL2 := hid hcl2
            have q0 := HCELL.out _ hm7.1 0 _ (by omega) rfl
            rw [Nat.add_zero] at q0
            have q1 := HCELL.out _ hm7.1 1 _ (by omega) rfl
            have q2 := HCELL.out _ hm7.1 2 _ (by omega) rfl
            have q3 := HCELL.out _ hm7.1 3 _ (by omega) rfl
            have q4 := HCELL.out _ hm7.1 4 _ (by omega) rfl
            have q5 := HCELL.out _ hm7.1 5 _ (by omega) rfl
            have q6 := HCELL.out _ hm7.1 6 _ (by omega) rfl
            have q7 := HCELL.out _ hm7.1 7 _ (by omega) rfl
            clear hm7 hcl2 HCL
            unfold StepV.cells at HCL2
            go_wp2_with fail
            refine HCL2.out.mono ?_
            rintro e w8 ⟨rfl, hm8⟩
            dsimp only
            have hla := HAN.out.2
            obtain ⟨okD, ka7, kc7, d7⟩ := Mem.devAt.1 hm8.p1
            obtain ⟨okC, ka8, kc8, d8⟩ := Mem.devAt.1 hm8
            have HD1 := hid (Down_any W w8 _ gd r.1 ka7 _ kc7 d7)
            have HD2 := hid (Down_any W w8 _ gc _ ka8 _ kc8 d8)
            rw [← hla.down] at HD2
            have HC1 := hid (Cache_any W w8 _ gd r.1 ka7 _ kc7 d7 okD (by have := HPD.out; omega))
            have HPE : Hid (r.1.pend = (callM C S).1.pend) := hla.pend
            have HPLR : Hid (r.1.pend.length ≤ 1000000000) := by show _ ≤ _; have := HPD.out; omega
            have HOKD := hid okD
            have HLA := hid hla
            clear hm8 d7 d8 okD okC hla HCL2 q0 q1 q2 q3 q4 q5 q6 q7
            generalize (callM C S).1 = C' at *
            go_wp2_with fail
            refine HD1.out.mono ?_
            rintro e w' ⟨rfl, rfl⟩
            dsimp only
            go_wp2_with fail
            refine HD2.out.mono ?_
            rintro e w' ⟨rfl, rfl⟩
            dsimp only
            go_wp2_with fail
            refine HC1.out.mono ?_
            rintro e w9 ⟨a9, rfl, hm9⟩
            dsimp only
            go_wp2_with fail
            obtain ⟨okC, ka8, kc8, d8⟩ := Mem.devAt.1 (Mem.devAt.2 ⟨HOKD.out, ka7, kc7, hm9.q2⟩ : Mem W w9 (devAt T8 gd r.1 * _)).p2
            have HC2 := hid (Cache_any W w9 _ gc C' ka8 _ kc8 d8 okC (by rw [← HPE.out]; exact HPLR.out))
            rw [← HPE.out] at HC2
            have HOKC := hid okC
            clear hm9 d8 okC
            refine HC2.out.mono ?_
            rintro e w10 ⟨a10, rfl, hm10⟩
            dsimp only
            have hb := (Mem.devAt.2 ⟨HOKC.out, ka8, kc8, hm10.q2⟩ : Mem W w10 (devAt T8 gc C' * _))
            have HSM := hid (same_any W w10 _ a9 a10 _ _ r.1.pend (hb.eq (by ac_rfl) : Mem W w10 (pends T8.u8 T8.pe a9 r.1.pend.length r.1.pend * (pends T8.u8 T8.pe a10 r.1.pend.length r.1.pend * (devAt T8 gd r.1 * (devAt T8 gc C' * emp))))) HPLR.out)
            clear hm10 hb
            go_wp2_with fail
            refine HSM.out.mono ?_
            rintro e w11 ⟨rfl, hm11⟩
            dsimp only
            have HM11 := hid hm11
            clear hm11 HSM HC1 HC2 HD1 HD2
            go_wp2_with fail
            go_roundw
            case rel => exact ⟨q + 1, r.1, C', by omega, by omega, by go_num, by have := HPD.out; omega, HLA.out, HM11.out⟩
            case measure => simp [intOf] <;> omega
          · have HIE := hid HAL.out.img
            have HM := hid hm
            have hex : ((q : Int) = (n2 : Int)) ∨ ((q : Int) < (n2 : Int) ∧ (q : Int) = 200) := by omega
            clear hlt hm
            generalize (q : Int) = z at *
            rcases hex with rfl | ⟨kn, rfl⟩
            all_goals
              go_wp2_with fail
              refine region_mem (by kernel_rfl) (V := fun i x => match i with | 0 => x = (.pointer (some ⟨gd, 0, none⟩) : Value) | 1 => ∃ a c, x = (.slice a D.img.length c : Value) | 2 => x = (.string ⟨D.img.toArray⟩ : Value) | 3 => x = (.pointer (some ⟨gc, 0, none⟩) : Value) | 4 => ∃ a c, x = (.slice a D.img.length c : Value) | 5 => x = (.string ⟨D.img.toArray⟩ : Value) | 6 => x = (.bool true : Value) | 7 => x = (.bool true : Value) | _ => True) (A := (fun _ => (devAt T8 gd D * (devAt T8 gc C * emp)))) (Bs := [(1, rowB 5 D.img.length (byts D.img)), (4, rowB 5 D.img.length (byts D.img))]) HM.out (fun _ _ _ => rfl) (show ([1, 4] : List Nat).Nodup by decide) (by kernel_rfl) (by kernel_rfl) ?_ ?_
              · refine ⟨?_, ?_, ?_, ?_, ?_, ?_, ?_, ?_, trivial⟩
                · refine Fine2.run trivial _ rfl (fun _ => rfl) rfl (fun L a w R hw hm hmk hf => ?_)
                  have e5 : a.eval (.tmp 5) = (.pointer (some ⟨gd, 0, none⟩) : Value) := (hf 5 (by decide +kernel)).old (by kernel_rfl)
                  simp only [Act.eval, Array.getD_eq_getD_getElem?] at e5
                  simp [execOp, resolve, invoke, builtin, go_sem, e5]
                · refine Fine2.call trivial 16 #[.pointer (some ⟨gd, 0, none⟩)] (fun a w hf => ?_) (fun L a w R hL hw hm hmk hf => ?_)
                  · have e122 : a.eval (.tmp 122) = (.pointer (some ⟨gd, 0, none⟩) : Value) := (hf 122 (by decide +kernel)).new 0 (by kernel_rfl) (by kernel_rfl)
                    simp only [Act.eval, Array.getD_eq_getD_getElem?] at e122
                    simp [execOp, resolve, invoke, go_sem, e122]
                  · refine (Image_row W w _ gd D (hm.eq (by ac_rfl) : Mem W w (devAt T8 gd D * (devAt T8 gc C * emp * R)))).mono ?_
                    rintro e w' ⟨v, rfl, hm'⟩
                    obtain ⟨a3, c3, h3, -⟩ := hm'.rowB_sl
                    exact ⟨v, rfl, ⟨a3, c3, h3⟩, hm'.eq (by show _ = (devAt T8 gd D * (devAt T8 gc C * emp)) * (rowB 5 D.img.length (byts D.img) v * R); ac_rfl)⟩
                · refine Fine2.run trivial _ rfl (fun _ => rfl) rfl (fun L a w R hw hm hmk hf => ?_)
                  obtain ⟨R', rfl⟩ := hmk [true, false] (by kernel_rfl)
                  have hm : Mem _ w (_ * (_ * R')) := hm
                  obtain ⟨a2, c2, e2, hs⟩ := hm.p1.rowB_sl
                  have e123 : a.eval (.tmp 123) = .slice a2 _ c2 := e2
                  have hst := conv_str hs
                  simp only [Act.eval, Array.getD_eq_getD_getElem?] at e123
                  simp [execOp, resolve, invoke, builtin, go_sem, e123, hst]
                · refine Fine2.run trivial _ rfl (fun _ => rfl) rfl (fun L a w R hw hm hmk hf => ?_)
                  have e10 : a.eval (.tmp 10) = (.pointer (some ⟨gc, 0, none⟩) : Value) := (hf 10 (by decide +kernel)).old (by kernel_rfl)
                  simp only [Act.eval, Array.getD_eq_getD_getElem?] at e10
                  simp [execOp, resolve, invoke, builtin, go_sem, e10]
                · refine Fine2.call trivial 16 #[.pointer (some ⟨gc, 0, none⟩)] (fun a w hf => ?_) (fun L a w R hL hw hm hmk hf => ?_)
                  · have e125 : a.eval (.tmp 125) = (.pointer (some ⟨gc, 0, none⟩) : Value) := (hf 125 (by decide +kernel)).new 3 (by kernel_rfl) (by kernel_rfl)
                    simp only [Act.eval, Array.getD_eq_getD_getElem?] at e125
                    simp [execOp, resolve, invoke, go_sem, e125]
                  · refine (Image_row W w _ gc C (hm.eq (by ac_rfl) : Mem W w (devAt T8 gc C * (devAt T8 gd D * emp * R)))).mono ?_
                    rintro e w' ⟨v, rfl, hm'⟩
                    rw [← HIE.out] at hm'
                    obtain ⟨a3, c3, h3, -⟩ := hm'.rowB_sl
                    exact ⟨v, rfl, ⟨a3, c3, h3⟩, hm'.eq (by show _ = (devAt T8 gd D * (devAt T8 gc C * emp)) * (rowB 5 D.img.length (byts D.img) v * R); ac_rfl)⟩
                · refine Fine2.run trivial _ rfl (fun _ => rfl) rfl (fun L a w R hw hm hmk hf => ?_)
                  obtain ⟨R', rfl⟩ := hmk [false, true] (by kernel_rfl)
                  have hm : Mem _ w (_ * (_ * R')) := hm
                  obtain ⟨a2, c2, e2, hs⟩ := hm.p1.rowB_sl
                  have e126 : a.eval (.tmp 126) = .slice a2 _ c2 := e2
                  have hst := conv_str hs
                  simp only [Act.eval, Array.getD_eq_getD_getElem?] at e126
                  simp [execOp, resolve, invoke, builtin, go_sem, e126, hst]
                · refine Fine2.run trivial _ rfl (fun _ => rfl) rfl (fun L a w R hw hm hmk hf => ?_)
                  have e124 : a.eval (.tmp 124) = (.string ⟨D.img.toArray⟩ : Value) := (hf 124 (by decide +kernel)).new 2 (by kernel_rfl) (by kernel_rfl)
                  have e127 : a.eval (.tmp 127) = (.string ⟨D.img.toArray⟩ : Value) := (hf 127 (by decide +kernel)).new 5 (by kernel_rfl) (by kernel_rfl)
                  simp only [Act.eval, Array.getD_eq_getD_getElem?] at e124 e127
                  simp [execOp, resolve, invoke, builtin, go_sem, e124, e127]
                · refine Fine2.run trivial _ rfl (fun _ => rfl) rfl (fun L a w R hw hm hmk hf => ?_)
                  have e128 : a.eval (.tmp 128) = (.bool true : Value) := (hf 128 (by decide +kernel)).new 6 (by kernel_rfl) (by kernel_rfl)
                  simp only [Act.eval, Array.getD_eq_getD_getElem?] at e128
                  simp [execOp, resolve, invoke, builtin, go_sem, e128]
              · intro u w9 hu hm9
                have h128 : u 4 = .bool true := hu 4 7 rfl
                have HF := hid hm9.1
                simp only [putAll]
                rw [h128]
                clear hm9 hu h128 HM
                go_simp
                go_wp2_with fail
                go_ret
                exact ⟨rfl, HF.out⟩
end Go.Proofs.Ytpdppacafkdgdaa
