/- The walk of samePending, at two like lists. -/
import Derived.Test.YtpdppacafkdgdaaKeep9
set_option linter.unusedVariables false
set_option linter.unusedSimpArgs false
namespace Go.Proofs.Ytpdppacafkdgdaa
open Go Go.RowKit Go.Le

set_option maxRecDepth 20000 in
set_option maxHeartbeats 4000000 in
theorem same_keep (wb w : World) (R : HP) (a1 a2 : Option Addr) (c1 c2 : Nat) (L : List (Nat × List UInt8)) (h : Mem wb w (pends T8.u8 T8.pe a1 c1 L * (pends T8.u8 T8.pe a2 c2 L * R))) (hn : L.length ≤ 1000000000) :
    Calls Try.prog 26 #[.slice a1 L.length c1, .slice a2 L.length c2] w fun e w' => e = .returned (.bool true) ∧ Mem wb w' (pends T8.u8 T8.pe a1 c1 L * (pends T8.u8 T8.pe a2 c2 L * R)) := by
  obtain ⟨zs1, hz1, hp1⟩ := Mem.pends.1 h
  obtain ⟨zs2, hz2, hp2⟩ := Mem.pends.1 hp1.p2
  have hp3 : Mem wb w (row T8.pe 2 a1 L.length c1 (pzCells zs1) * (row T8.pe 2 a2 L.length c2 (pzCells zs2) * (all (zs1.map (pzRow T8.u8)) * (all (zs2.map (pzRow T8.u8)) * R)))) := hp2.eq (by ac_rfl)
  have l1 : zs1.length = L.length := by rw [← hz1]; simp
  have l2 : zs2.length = L.length := by rw [← hz2]; simp
  have HZ1 := hid hz1
  have HZ2 := hid hz2
  have HM := hid hp3
  clear h hp1 hp2 hp3 hz1 hz2
  generalize hnl : L.length = n at *
  have HN := hid hnl
  clear hnl
  go_enter Try.func26, Try.ntmps26
  go_wp2_with fail
  go_loopw [5] (fun i wr => ∃ k : Nat, k ≤ n ∧ i = .int .i64 k ∧ Mem wb wr (row T8.pe 2 a1 n c1 (pzCells zs1) * (row T8.pe 2 a2 n c2 (pzCells zs2) * (all (zs1.map (pzRow T8.u8)) * (all (zs2.map (pzRow T8.u8)) * R))))) (fun i _ => n - (intOf i).toNat)
  case atStart => exact ⟨0, by omega, rfl, HM.out⟩
  case round =>
    obtain ⟨k, hk, rfl, hm⟩ := hrel
    clear HM
    by_cases hlt : k < n
    · obtain ⟨g1, rest1, rfl, r1, k1a, k1c, r4, hA⟩ := hm.row_at (by omega)
      obtain ⟨g2, rest2, rfl, s1, k2a, k2c, s4, hB⟩ := hA.p1.row_at (by omega)
      obtain ⟨z1, hzk1⟩ : ∃ z, zs1[k]? = some z := ⟨zs1[k]'(by omega), List.getElem?_eq_getElem _⟩
      obtain ⟨z2, hzk2⟩ : ∃ z, zs2[k]? = some z := ⟨zs2[k]'(by omega), List.getElem?_eq_getElem _⟩
      have hpk1 := pz_cells zs1 k z1 hzk1
      have hpk2 := pz_cells zs2 k z2 hzk2
      have hzz : z1.1 = z2.1 := by
        have e1 : L[k]? = some z1.1 := by rw [← HZ1.out, List.getElem?_map, hzk1]; rfl
        have e2 : L[k]? = some z2.1 := by rw [← HZ2.out, List.getElem?_map, hzk2]; rfl
        rw [e1] at e2
        exact Option.some.inj e2
      obtain ⟨⟨si, bs⟩, ba1, bc1⟩ := z1
      obtain ⟨⟨si2, bs2⟩, ba2, bc2⟩ := z2
      simp only [Prod.mk.injEq] at hzz
      obtain ⟨rfl, rfl⟩ := hzz
      have H1 : Hid (∀ w, Mem wb w (pts g2 T8.pe (pzCells zs2 ++ rest2) * (pts g1 T8.pe (pzCells zs1 ++ rest1) * (all (zs1.map (pzRow T8.u8)) * (all (zs2.map (pzRow T8.u8)) * R)))) →
          w.cell? ⟨g1, k * 2, none⟩ = some (.int .i64 (si : Int)) ∧ w.cell? ⟨g1, k * 2 + 1, none⟩ = some (.slice ba1 bs.length bc1) ∧ (convert 34 9 (.slice ba1 bs.length bc1)).run Try.prog w = .ok (.string ⟨bs.toArray⟩) w) := by
        intro w hw
        refine ⟨?_, ?_, ?_⟩
        · rw [hw.p1.cell (k * 2), List.getElem?_append_left (by omega)]; exact hpk1.1
        · rw [hw.p1.cell (k * 2 + 1), List.getElem?_append_left (by omega)]; exact hpk1.2
        · obtain ⟨Az, hmz⟩ := Mem.pz hw.p2 hzk1
          exact conv_str hmz.row_sl
      have H2 : Hid (∀ w, Mem wb w (pts g2 T8.pe (pzCells zs2 ++ rest2) * (pts g1 T8.pe (pzCells zs1 ++ rest1) * (all (zs1.map (pzRow T8.u8)) * (all (zs2.map (pzRow T8.u8)) * R)))) →
          w.cell? ⟨g2, k * 2, none⟩ = some (.int .i64 (si : Int)) ∧ w.cell? ⟨g2, k * 2 + 1, none⟩ = some (.slice ba2 bs.length bc2) ∧ (convert 34 9 (.slice ba2 bs.length bc2)).run Try.prog w = .ok (.string ⟨bs.toArray⟩) w) := by
        intro w hw
        refine ⟨?_, ?_, ?_⟩
        · rw [hw.cell (k * 2), List.getElem?_append_left (by omega)]; exact hpk2.1
        · rw [hw.cell (k * 2 + 1), List.getElem?_append_left (by omega)]; exact hpk2.2
        · obtain ⟨Az, hmz⟩ := Mem.pz hw.p3 hzk2
          exact conv_str hmz.row_sl
      have HB := hid hB
      have R1 := hid r1
      have R4 := hid r4
      have S1 := hid s1
      have S4 := hid s4
      have kn : (k : Int) < (n : Int) := by omega
      have k1b : k ≤ c1 := by omega
      have k2b : k ≤ c2 := by omega
      clear hpk1 hpk2 hzk1 hzk2 r1 r4 s1 s4 hA hB hm
      go_wp2_with fail
      refine region_vals (by kernel_rfl) HB.out (V := fun i x => match i with | 0 => x = (.slice (some ⟨g1, 0, none⟩) n c1 : Value) | 1 => x = (.int .i64 (k : Int) : Value) | 2 => x = (.pointer (some ⟨g1, k * 2, none⟩) : Value) | 3 => x = (.pointer (some ⟨g1, k * 2, none⟩) : Value) | 4 => x = (.int .i64 (si : Int) : Value) | 5 => x = (.slice (some ⟨g2, 0, none⟩) n c2 : Value) | 6 => x = (.int .i64 (k : Int) : Value) | 7 => x = (.pointer (some ⟨g2, k * 2, none⟩) : Value) | 8 => x = (.pointer (some ⟨g2, k * 2, none⟩) : Value) | 9 => x = (.int .i64 (si : Int) : Value) | 10 => x = (.bool false : Value) | 11 => x = (.bool false : Value) | 12 => x = (.slice (some ⟨g1, 0, none⟩) n c1 : Value) | 13 => x = (.int .i64 (k : Int) : Value) | 14 => x = (.pointer (some ⟨g1, k * 2, none⟩) : Value) | 15 => x = (.pointer (some ⟨g1, k * 2 + 1, none⟩) : Value) | 16 => x = (.slice ba1 bs.length bc1 : Value) | 17 => x = (.string ⟨bs.toArray⟩ : Value) | 18 => x = (.slice (some ⟨g2, 0, none⟩) n c2 : Value) | 19 => x = (.int .i64 (k : Int) : Value) | 20 => x = (.pointer (some ⟨g2, k * 2, none⟩) : Value) | 21 => x = (.pointer (some ⟨g2, k * 2 + 1, none⟩) : Value) | 22 => x = (.slice ba2 bs.length bc2 : Value) | 23 => x = (.string ⟨bs.toArray⟩ : Value) | 24 => x = (.bool false : Value) | 25 => x = (.bool false : Value) | _ => True) (by kernel_rfl) ?_ ?_
      · refine ⟨?_, ?_, ?_, ?_, ?_, ?_, ?_, ?_, ?_, ?_, ?_, ?_, ?_, ?_, ?_, ?_, ?_, ?_, ?_, ?_, ?_, ?_, ?_, ?_, ?_, ?_, trivial⟩
        · refine Fine.run trivial _ rfl (fun a w hm hf => ?_)
          have e0 : a.eval (.tmp 0) = (.slice (some ⟨g1, 0, none⟩) n c1 : Value) := (hf 0 (by decide +kernel)).old (by kernel_rfl)
          simp only [Act.eval, Array.getD_eq_getD_getElem?] at e0
          simp [execOp, resolve, invoke, builtin, go_sem, e0]
        · refine Fine.run trivial _ rfl (fun a w hm hf => ?_)
          have e5 : a.eval (.tmp 5) = (.int .i64 (k : Int) : Value) := (hf 5 (by decide +kernel)).old (by kernel_rfl)
          simp only [Act.eval, Array.getD_eq_getD_getElem?] at e5
          simp [execOp, resolve, invoke, builtin, go_sem, e5]
        · refine Fine.run trivial _ rfl (fun a w hm hf => ?_)
          have e17 : a.eval (.tmp 17) = (.slice (some ⟨g1, 0, none⟩) n c1 : Value) := (hf 17 (by decide +kernel)).new 0 (by kernel_rfl) (by kernel_rfl)
          have e18 : a.eval (.tmp 18) = (.int .i64 (k : Int) : Value) := (hf 18 (by decide +kernel)).new 1 (by kernel_rfl) (by kernel_rfl)
          simp only [Act.eval, Array.getD_eq_getD_getElem?] at e17 e18
          skip
          simp [execOp, resolve, invoke, builtin, go_sem, e17, e18, kn, k1a, k1b]
        · refine Fine.run trivial _ rfl (fun a w hm hf => ?_)
          have e19 : a.eval (.tmp 19) = (.pointer (some ⟨g1, k * 2, none⟩) : Value) := (hf 19 (by decide +kernel)).new 2 (by kernel_rfl) (by kernel_rfl)
          simp only [Act.eval, Array.getD_eq_getD_getElem?] at e19
          simp [execOp, resolve, invoke, builtin, go_sem, e19]
        · refine Fine.run trivial _ rfl (fun a w hm hf => ?_)
          have e20 : a.eval (.tmp 20) = (.pointer (some ⟨g1, k * 2, none⟩) : Value) := (hf 20 (by decide +kernel)).new 3 (by kernel_rfl) (by kernel_rfl)
          simp only [Act.eval, Array.getD_eq_getD_getElem?] at e20
          obtain ⟨x1, x2, x3⟩ := H1.out w hm
          simp [execOp, resolve, invoke, builtin, go_sem, e20, x1, x2, x3]
        · refine Fine.run trivial _ rfl (fun a w hm hf => ?_)
          have e1 : a.eval (.tmp 1) = (.slice (some ⟨g2, 0, none⟩) n c2 : Value) := (hf 1 (by decide +kernel)).old (by kernel_rfl)
          simp only [Act.eval, Array.getD_eq_getD_getElem?] at e1
          simp [execOp, resolve, invoke, builtin, go_sem, e1]
        · refine Fine.run trivial _ rfl (fun a w hm hf => ?_)
          have e5 : a.eval (.tmp 5) = (.int .i64 (k : Int) : Value) := (hf 5 (by decide +kernel)).old (by kernel_rfl)
          simp only [Act.eval, Array.getD_eq_getD_getElem?] at e5
          simp [execOp, resolve, invoke, builtin, go_sem, e5]
        · refine Fine.run trivial _ rfl (fun a w hm hf => ?_)
          have e22 : a.eval (.tmp 22) = (.slice (some ⟨g2, 0, none⟩) n c2 : Value) := (hf 22 (by decide +kernel)).new 5 (by kernel_rfl) (by kernel_rfl)
          have e23 : a.eval (.tmp 23) = (.int .i64 (k : Int) : Value) := (hf 23 (by decide +kernel)).new 6 (by kernel_rfl) (by kernel_rfl)
          simp only [Act.eval, Array.getD_eq_getD_getElem?] at e22 e23
          skip
          simp [execOp, resolve, invoke, builtin, go_sem, e22, e23, kn, k2a, k2b]
        · refine Fine.run trivial _ rfl (fun a w hm hf => ?_)
          have e24 : a.eval (.tmp 24) = (.pointer (some ⟨g2, k * 2, none⟩) : Value) := (hf 24 (by decide +kernel)).new 7 (by kernel_rfl) (by kernel_rfl)
          simp only [Act.eval, Array.getD_eq_getD_getElem?] at e24
          simp [execOp, resolve, invoke, builtin, go_sem, e24]
        · refine Fine.run trivial _ rfl (fun a w hm hf => ?_)
          have e25 : a.eval (.tmp 25) = (.pointer (some ⟨g2, k * 2, none⟩) : Value) := (hf 25 (by decide +kernel)).new 8 (by kernel_rfl) (by kernel_rfl)
          simp only [Act.eval, Array.getD_eq_getD_getElem?] at e25
          obtain ⟨x1, x2, x3⟩ := H2.out w hm
          simp [execOp, resolve, invoke, builtin, go_sem, e25, x1, x2, x3]
        · refine Fine.run trivial _ rfl (fun a w hm hf => ?_)
          have e21 : a.eval (.tmp 21) = (.int .i64 (si : Int) : Value) := (hf 21 (by decide +kernel)).new 4 (by kernel_rfl) (by kernel_rfl)
          have e26 : a.eval (.tmp 26) = (.int .i64 (si : Int) : Value) := (hf 26 (by decide +kernel)).new 9 (by kernel_rfl) (by kernel_rfl)
          simp only [Act.eval, Array.getD_eq_getD_getElem?] at e21 e26
          simp [execOp, resolve, invoke, builtin, go_sem, e21, e26]
        · refine Fine.run trivial _ rfl (fun a w hm hf => ?_)
          have e27 : a.eval (.tmp 27) = (.bool false : Value) := (hf 27 (by decide +kernel)).new 10 (by kernel_rfl) (by kernel_rfl)
          simp only [Act.eval, Array.getD_eq_getD_getElem?] at e27
          simp [execOp, resolve, invoke, builtin, go_sem, e27]
        · refine Fine.run ⟨_, rfl, by kernel_rfl, by kernel_rfl, fun _ h => h⟩ _ rfl (fun a w hm hf => ?_)
          have e0 : a.eval (.tmp 0) = (.slice (some ⟨g1, 0, none⟩) n c1 : Value) := (hf 0 (by decide +kernel)).old (by kernel_rfl)
          simp only [Act.eval, Array.getD_eq_getD_getElem?] at e0
          simp [execOp, resolve, invoke, builtin, go_sem, e0]
        · refine Fine.run ⟨_, rfl, by kernel_rfl, by kernel_rfl, fun _ h => h⟩ _ rfl (fun a w hm hf => ?_)
          have e5 : a.eval (.tmp 5) = (.int .i64 (k : Int) : Value) := (hf 5 (by decide +kernel)).old (by kernel_rfl)
          simp only [Act.eval, Array.getD_eq_getD_getElem?] at e5
          simp [execOp, resolve, invoke, builtin, go_sem, e5]
        · refine Fine.run ⟨_, rfl, by kernel_rfl, by kernel_rfl, fun _ h => h⟩ _ rfl (fun a w hm hf => ?_)
          have e29 : a.eval (.tmp 29) = (.slice (some ⟨g1, 0, none⟩) n c1 : Value) := (hf 29 (by decide +kernel)).new 12 (by kernel_rfl) (by kernel_rfl)
          have e30 : a.eval (.tmp 30) = (.int .i64 (k : Int) : Value) := (hf 30 (by decide +kernel)).new 13 (by kernel_rfl) (by kernel_rfl)
          simp only [Act.eval, Array.getD_eq_getD_getElem?] at e29 e30
          skip
          simp [execOp, resolve, invoke, builtin, go_sem, e29, e30, kn, k1a, k1b]
        · refine Fine.run ⟨_, rfl, by kernel_rfl, by kernel_rfl, fun _ h => h⟩ _ rfl (fun a w hm hf => ?_)
          have e31 : a.eval (.tmp 31) = (.pointer (some ⟨g1, k * 2, none⟩) : Value) := (hf 31 (by decide +kernel)).new 14 (by kernel_rfl) (by kernel_rfl)
          simp only [Act.eval, Array.getD_eq_getD_getElem?] at e31
          simp [execOp, resolve, invoke, builtin, go_sem, e31]
        · refine Fine.run ⟨_, rfl, by kernel_rfl, by kernel_rfl, fun _ h => h⟩ _ rfl (fun a w hm hf => ?_)
          have e32 : a.eval (.tmp 32) = (.pointer (some ⟨g1, k * 2 + 1, none⟩) : Value) := (hf 32 (by decide +kernel)).new 15 (by kernel_rfl) (by kernel_rfl)
          simp only [Act.eval, Array.getD_eq_getD_getElem?] at e32
          obtain ⟨x1, x2, x3⟩ := H1.out w hm
          simp [execOp, resolve, invoke, builtin, go_sem, e32, x1, x2, x3]
        · refine Fine.run ⟨_, rfl, by kernel_rfl, by kernel_rfl, fun _ h => h⟩ _ rfl (fun a w hm hf => ?_)
          have e33 : a.eval (.tmp 33) = (.slice ba1 bs.length bc1 : Value) := (hf 33 (by decide +kernel)).new 16 (by kernel_rfl) (by kernel_rfl)
          simp only [Act.eval, Array.getD_eq_getD_getElem?] at e33
          obtain ⟨x1, x2, x3⟩ := H1.out w hm
          simp [execOp, resolve, invoke, builtin, go_sem, e33, x1, x2, x3]
        · refine Fine.run ⟨_, rfl, by kernel_rfl, by kernel_rfl, fun _ h => h⟩ _ rfl (fun a w hm hf => ?_)
          have e1 : a.eval (.tmp 1) = (.slice (some ⟨g2, 0, none⟩) n c2 : Value) := (hf 1 (by decide +kernel)).old (by kernel_rfl)
          simp only [Act.eval, Array.getD_eq_getD_getElem?] at e1
          simp [execOp, resolve, invoke, builtin, go_sem, e1]
        · refine Fine.run ⟨_, rfl, by kernel_rfl, by kernel_rfl, fun _ h => h⟩ _ rfl (fun a w hm hf => ?_)
          have e5 : a.eval (.tmp 5) = (.int .i64 (k : Int) : Value) := (hf 5 (by decide +kernel)).old (by kernel_rfl)
          simp only [Act.eval, Array.getD_eq_getD_getElem?] at e5
          simp [execOp, resolve, invoke, builtin, go_sem, e5]
        · refine Fine.run ⟨_, rfl, by kernel_rfl, by kernel_rfl, fun _ h => h⟩ _ rfl (fun a w hm hf => ?_)
          have e35 : a.eval (.tmp 35) = (.slice (some ⟨g2, 0, none⟩) n c2 : Value) := (hf 35 (by decide +kernel)).new 18 (by kernel_rfl) (by kernel_rfl)
          have e36 : a.eval (.tmp 36) = (.int .i64 (k : Int) : Value) := (hf 36 (by decide +kernel)).new 19 (by kernel_rfl) (by kernel_rfl)
          simp only [Act.eval, Array.getD_eq_getD_getElem?] at e35 e36
          skip
          simp [execOp, resolve, invoke, builtin, go_sem, e35, e36, kn, k2a, k2b]
        · refine Fine.run ⟨_, rfl, by kernel_rfl, by kernel_rfl, fun _ h => h⟩ _ rfl (fun a w hm hf => ?_)
          have e37 : a.eval (.tmp 37) = (.pointer (some ⟨g2, k * 2, none⟩) : Value) := (hf 37 (by decide +kernel)).new 20 (by kernel_rfl) (by kernel_rfl)
          simp only [Act.eval, Array.getD_eq_getD_getElem?] at e37
          simp [execOp, resolve, invoke, builtin, go_sem, e37]
        · refine Fine.run ⟨_, rfl, by kernel_rfl, by kernel_rfl, fun _ h => h⟩ _ rfl (fun a w hm hf => ?_)
          have e38 : a.eval (.tmp 38) = (.pointer (some ⟨g2, k * 2 + 1, none⟩) : Value) := (hf 38 (by decide +kernel)).new 21 (by kernel_rfl) (by kernel_rfl)
          simp only [Act.eval, Array.getD_eq_getD_getElem?] at e38
          obtain ⟨x1, x2, x3⟩ := H2.out w hm
          simp [execOp, resolve, invoke, builtin, go_sem, e38, x1, x2, x3]
        · refine Fine.run ⟨_, rfl, by kernel_rfl, by kernel_rfl, fun _ h => h⟩ _ rfl (fun a w hm hf => ?_)
          have e39 : a.eval (.tmp 39) = (.slice ba2 bs.length bc2 : Value) := (hf 39 (by decide +kernel)).new 22 (by kernel_rfl) (by kernel_rfl)
          simp only [Act.eval, Array.getD_eq_getD_getElem?] at e39
          obtain ⟨x1, x2, x3⟩ := H2.out w hm
          simp [execOp, resolve, invoke, builtin, go_sem, e39, x1, x2, x3]
        · refine Fine.run ⟨_, rfl, by kernel_rfl, by kernel_rfl, fun _ h => h⟩ _ rfl (fun a w hm hf => ?_)
          have e34 : a.eval (.tmp 34) = (.string ⟨bs.toArray⟩ : Value) := (hf 34 (by decide +kernel)).new 17 (by kernel_rfl) (by kernel_rfl)
          have e40 : a.eval (.tmp 40) = (.string ⟨bs.toArray⟩ : Value) := (hf 40 (by decide +kernel)).new 23 (by kernel_rfl) (by kernel_rfl)
          simp only [Act.eval, Array.getD_eq_getD_getElem?] at e34 e40
          simp [execOp, resolve, invoke, builtin, go_sem, e34, e40]
        · refine Fine.run trivial _ rfl (fun a w hm hf => ?_)
          have e28 : a.eval (.tmp 28) = (.bool false : Value) := (hf 28 (by decide +kernel)).new 11 (by kernel_rfl) (by kernel_rfl)
          have e41 : a.eval (.tmp 41) = (.bool false : Value) := (hf 41 (by decide +kernel)).new 24 (by kernel_rfl) (by kernel_rfl)
          simp only [Act.eval, Array.getD_eq_getD_getElem?] at e28 e41
          simp [execOp, resolve, invoke, builtin, go_sem, e28, e41]
      · intro u w9 hm9 hu
        have h42 : u 42 = _ := hu 42 25 rfl
        have HM9 := hid hm9
        simp only [putAll]
        rw [h42]
        clear hm9 hu h42 H1 H2
        go_simp
        go_wp2_with fail
        go_roundw
        case rel => exact ⟨k + 1, by omega, by go_num, Mem.of_row (rest := rest1) rfl R1.out k1a k1c R4.out (Mem.of_row (rest := rest2) rfl S1.out k2a k2c S4.out HM9.out).p1⟩
        case measure => simp [intOf] <;> omega
    · obtain rfl : k = n := by omega
      have g2 : Mem wb wr (pends T8.u8 T8.pe a2 c2 L * (row T8.pe 2 a1 L.length c1 (pzCells zs1) * (all (zs1.map (pzRow T8.u8)) * R))) := Mem.pends.2 ⟨zs2, HZ2.out, by rw [HN.out]; exact hm.eq (by ac_rfl)⟩
      have HF := hid (Mem.pends.2 ⟨zs1, HZ1.out, g2.eq (by ac_rfl)⟩ : Mem wb wr (pends T8.u8 T8.pe a1 c1 L * (pends T8.u8 T8.pe a2 c2 L * R)))
      clear g2
      clear hm
      go_wp2_with fail
      go_ret
      exact ⟨rfl, HF.out⟩

theorem same_any (wb w : World) (R : HP) (a1 a2 : Option Addr) (c1 c2 : Nat) (L : List (Nat × List UInt8)) (h : Mem wb w (pends T8.u8 T8.pe a1 c1 L * (pends T8.u8 T8.pe a2 c2 L * R))) (hn : L.length ≤ 1000000000) :
    Calls Try.prog 26 #[.slice a1 L.length c1, .slice a2 L.length c2] w fun e w' => e = .returned (.bool true) ∧ Mem wb w' R :=
  (same_keep wb w R a1 a2 c1 c2 L h hn).mono fun e w' ⟨he, hm⟩ => ⟨he, hm.right.right⟩
end Go.Proofs.Ytpdppacafkdgdaa
