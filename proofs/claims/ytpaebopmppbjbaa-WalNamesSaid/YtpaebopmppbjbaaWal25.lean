/- The walks of told, of the document's Room and Need. -/
import Derived.Test.YtpaebopmppbjbaaWal24
set_option linter.unusedVariables false
set_option linter.unusedSimpArgs false
namespace Go.Proofs.Ytpaebopmppbjbaa
open Go Go.RowKit Go.Le

set_option maxRecDepth 20000 in
set_option maxHeartbeats 4000000 in
theorem told_fault (wb w0 : World) (R : HP) (s : ByteArray) (c : Int) (hc : c ≠ 0) (v : Value) (h : Mem wb w0 (faultB s 0 c v * R)) :
    Calls Try.prog 8 #[v, .agg #[.string s, .int .i64 0, .int .i64 c]] w0 fun e w' => e = .returned (.bool true) ∧ Mem wb w' (faultB s 0 c v * R) := by
  have HH := hid h
  obtain ⟨gf, rfl, h0⟩ := Mem.faultB.1 h
  have h1 := h0.alloc [.string s, .int .i64 0, .int .i64 c] 31
  have HM := hid h1
  have q0 := h1.right.cell 2
  have b2 := h1.cell 2
  simp only [List.getElem?_cons_zero, List.getElem?_cons_succ] at q0 b2
  have hcn : (c == 0) = false := by simpa using hc
  have hta : ∀ w : World, (Instr.typeAssert (.iface 75 (.pointer (some ⟨gf, 0, none⟩))) 24 75 true).run Try.prog w = .ok (.tuple #[.pointer (some ⟨gf, 0, none⟩), .bool true]) w := fun _ => by kernel_rfl
  have htb : ∀ w : World, (Instr.typeAssert (.iface 45 (.int .i64 c)) 24 45 true).run Try.prog w = .ok (.tuple #[.int .i64 c, .bool true]) w := fun _ => by kernel_rfl
  clear h h0 h1
  go_enter Try.func8, Try.ntmps8
  go_wp2_with fail
  refine region_mem (by kernel_rfl) (V := fun jv x => match jv with | 0 => x = (.pointer (some ⟨gf, 0, none⟩) : Value) | 1 => x = (.bool false : Value) | 2 => x = (.bool false : Value) | 3 => x = (.pointer (some ⟨gf, 0, none⟩) : Value) | 4 => x = (.pointer (some ⟨gf, 0, none⟩) : Value) | 5 => x = (.pointer (some ⟨gf, 0, none⟩) : Value) | 6 => x = (.string s : Value) | 7 => x = (.pointer (some ⟨w0.heap.size, 0, none⟩) : Value) | 8 => x = (.string s : Value) | 9 => x = (.bool false : Value) | 10 => x = (.bool false : Value) | 11 => x = (.bool false : Value) | 12 => x = (.pointer (some ⟨gf, 0, none⟩) : Value) | 13 => x = (.pointer (some ⟨gf, 0, none⟩) : Value) | 14 => x = (.pointer (some ⟨gf, 1, none⟩) : Value) | 15 => x = (.int .i64 0 : Value) | 16 => x = (.pointer (some ⟨w0.heap.size, 1, none⟩) : Value) | 17 => x = (.int .i64 0 : Value) | 18 => x = (.bool false : Value) | 19 => x = (.bool false : Value) | _ => True) (A := (fun _ => (pts w0.heap.size 31 [.string s, .int .i64 0, .int .i64 c] * (pts gf 77 [.string s, .int .i64 0, .iface 45 (.int .i64 c)] * R)))) (Bs := []) HM.out (fun _ _ _ => rfl) (show ([] : List Nat).Nodup by decide) (by kernel_rfl) (by kernel_rfl) ?_ ?_
  · refine ⟨?_, ?_, ?_, ?_, ?_, ?_, ?_, ?_, ?_, ?_, ?_, ?_, ?_, ?_, ?_, ?_, ?_, ?_, ?_, ?_, trivial⟩
    · refine Fine2.run trivial _ rfl (fun _ => rfl) rfl rfl (fun L a w R' hw hm hmk hf => ?_)
      have e5 : a.eval (.tmp 5) = (.pointer (some ⟨gf, 0, none⟩) : Value) := (hf 5 (by decide +kernel)).old (by kernel_rfl)
      simp only [Act.eval, Array.getD_eq_getD_getElem?] at e5
      simp [execOp, resolve, invoke, builtin, go_sem, e5]
    · refine Fine2.run trivial _ rfl (fun _ => rfl) rfl rfl (fun L a w R' hw hm hmk hf => ?_)
      have e16 : a.eval (.tmp 16) = (.pointer (some ⟨gf, 0, none⟩) : Value) := (hf 16 (by decide +kernel)).new 0 (by kernel_rfl) (by kernel_rfl)
      simp only [Act.eval, Array.getD_eq_getD_getElem?] at e16
      simp [execOp, resolve, invoke, builtin, go_sem, e16]
    · refine Fine2.run trivial _ rfl (fun _ => rfl) rfl rfl (fun L a w R' hw hm hmk hf => ?_)
      have e17 : a.eval (.tmp 17) = (.bool false : Value) := (hf 17 (by decide +kernel)).new 1 (by kernel_rfl) (by kernel_rfl)
      simp only [Act.eval, Array.getD_eq_getD_getElem?] at e17
      simp [execOp, resolve, invoke, builtin, go_sem, e17]
    · refine Fine2.run ⟨_, rfl, by kernel_rfl, by kernel_rfl, fun _ h => h⟩ _ rfl (fun _ => rfl) rfl rfl (fun L a w R' hw hm hmk hf => ?_)
      have e5 : a.eval (.tmp 5) = (.pointer (some ⟨gf, 0, none⟩) : Value) := (hf 5 (by decide +kernel)).old (by kernel_rfl)
      simp only [Act.eval, Array.getD_eq_getD_getElem?] at e5
      simp [execOp, resolve, invoke, builtin, go_sem, e5]
    · refine Fine2.run ⟨_, rfl, by kernel_rfl, by kernel_rfl, fun _ h => h⟩ _ rfl (fun _ => rfl) rfl rfl (fun L a w R' hw hm hmk hf => ?_)
      have e19 : a.eval (.tmp 19) = (.pointer (some ⟨gf, 0, none⟩) : Value) := (hf 19 (by decide +kernel)).new 3 (by kernel_rfl) (by kernel_rfl)
      simp only [Act.eval, Array.getD_eq_getD_getElem?] at e19
      simp [execOp, resolve, invoke, builtin, go_sem, e19]
    · refine Fine2.run ⟨_, rfl, by kernel_rfl, by kernel_rfl, fun _ h => h⟩ _ rfl (fun _ => rfl) rfl rfl (fun L a w R' hw hm hmk hf => ?_)
      have e20 : a.eval (.tmp 20) = (.pointer (some ⟨gf, 0, none⟩) : Value) := (hf 20 (by decide +kernel)).new 4 (by kernel_rfl) (by kernel_rfl)
      simp only [Act.eval, Array.getD_eq_getD_getElem?] at e20
      simp [execOp, resolve, invoke, builtin, go_sem, e20]
    · refine Fine2.run ⟨_, rfl, by kernel_rfl, by kernel_rfl, fun _ h => h⟩ _ rfl (fun _ => rfl) rfl rfl (fun L a w R' hw hm hmk hf => ?_)
      have e21 : a.eval (.tmp 21) = (.pointer (some ⟨gf, 0, none⟩) : Value) := (hf 21 (by decide +kernel)).new 5 (by kernel_rfl) (by kernel_rfl)
      simp only [Act.eval, Array.getD_eq_getD_getElem?] at e21
      have hbx := hm.left.right
      have q0 := hbx.cell 0
      simp only [List.getElem?_cons_zero, List.getElem?_cons_succ] at q0
      simp [execOp, resolve, invoke, builtin, go_sem, e21, q0]
    · refine Fine2.run ⟨_, rfl, by kernel_rfl, by kernel_rfl, fun _ h => h⟩ _ rfl (fun _ => rfl) rfl rfl (fun L a w R' hw hm hmk hf => ?_)
      have e3 : a.eval (.tmp 3) = (.pointer (some ⟨w0.heap.size, 0, none⟩) : Value) := (hf 3 (by decide +kernel)).old (by kernel_rfl)
      simp only [Act.eval, Array.getD_eq_getD_getElem?] at e3
      simp [execOp, resolve, invoke, builtin, go_sem, e3]
    · refine Fine2.run ⟨_, rfl, by kernel_rfl, by kernel_rfl, fun _ h => h⟩ _ rfl (fun _ => rfl) rfl rfl (fun L a w R' hw hm hmk hf => ?_)
      have e23 : a.eval (.tmp 23) = (.pointer (some ⟨w0.heap.size, 0, none⟩) : Value) := (hf 23 (by decide +kernel)).new 7 (by kernel_rfl) (by kernel_rfl)
      simp only [Act.eval, Array.getD_eq_getD_getElem?] at e23
      have hbx := hm.left
      have q0 := hbx.cell 0
      simp only [List.getElem?_cons_zero, List.getElem?_cons_succ] at q0
      simp [execOp, resolve, invoke, builtin, go_sem, e23, q0]
    · refine Fine2.run ⟨_, rfl, by kernel_rfl, by kernel_rfl, fun _ h => h⟩ _ rfl (fun _ => rfl) rfl rfl (fun L a w R' hw hm hmk hf => ?_)
      have e22 : a.eval (.tmp 22) = (.string s : Value) := (hf 22 (by decide +kernel)).new 6 (by kernel_rfl) (by kernel_rfl)
      have e24 : a.eval (.tmp 24) = (.string s : Value) := (hf 24 (by decide +kernel)).new 8 (by kernel_rfl) (by kernel_rfl)
      simp only [Act.eval, Array.getD_eq_getD_getElem?] at e22 e24
      simp [execOp, resolve, invoke, builtin, go_sem, e22, e24]
    · refine Fine2.run trivial _ rfl (fun _ => rfl) rfl rfl (fun L a w R' hw hm hmk hf => ?_)
      have e18 : a.eval (.tmp 18) = (.bool false : Value) := (hf 18 (by decide +kernel)).new 2 (by kernel_rfl) (by kernel_rfl)
      have e25 : a.eval (.tmp 25) = (.bool false : Value) := (hf 25 (by decide +kernel)).new 9 (by kernel_rfl) (by kernel_rfl)
      simp only [Act.eval, Array.getD_eq_getD_getElem?] at e18 e25
      simp [execOp, resolve, invoke, builtin, go_sem, e18, e25]
    · refine Fine2.run trivial _ rfl (fun _ => rfl) rfl rfl (fun L a w R' hw hm hmk hf => ?_)
      have e26 : a.eval (.tmp 26) = (.bool false : Value) := (hf 26 (by decide +kernel)).new 10 (by kernel_rfl) (by kernel_rfl)
      simp only [Act.eval, Array.getD_eq_getD_getElem?] at e26
      simp [execOp, resolve, invoke, builtin, go_sem, e26]
    · refine Fine2.run ⟨_, rfl, by kernel_rfl, by kernel_rfl, fun _ h => h⟩ _ rfl (fun _ => rfl) rfl rfl (fun L a w R' hw hm hmk hf => ?_)
      have e5 : a.eval (.tmp 5) = (.pointer (some ⟨gf, 0, none⟩) : Value) := (hf 5 (by decide +kernel)).old (by kernel_rfl)
      simp only [Act.eval, Array.getD_eq_getD_getElem?] at e5
      simp [execOp, resolve, invoke, builtin, go_sem, e5]
    · refine Fine2.run ⟨_, rfl, by kernel_rfl, by kernel_rfl, fun _ h => h⟩ _ rfl (fun _ => rfl) rfl rfl (fun L a w R' hw hm hmk hf => ?_)
      have e28 : a.eval (.tmp 28) = (.pointer (some ⟨gf, 0, none⟩) : Value) := (hf 28 (by decide +kernel)).new 12 (by kernel_rfl) (by kernel_rfl)
      simp only [Act.eval, Array.getD_eq_getD_getElem?] at e28
      simp [execOp, resolve, invoke, builtin, go_sem, e28]
    · refine Fine2.run ⟨_, rfl, by kernel_rfl, by kernel_rfl, fun _ h => h⟩ _ rfl (fun _ => rfl) rfl rfl (fun L a w R' hw hm hmk hf => ?_)
      have e29 : a.eval (.tmp 29) = (.pointer (some ⟨gf, 0, none⟩) : Value) := (hf 29 (by decide +kernel)).new 13 (by kernel_rfl) (by kernel_rfl)
      simp only [Act.eval, Array.getD_eq_getD_getElem?] at e29
      simp [execOp, resolve, invoke, builtin, go_sem, e29]
    · refine Fine2.run ⟨_, rfl, by kernel_rfl, by kernel_rfl, fun _ h => h⟩ _ rfl (fun _ => rfl) rfl rfl (fun L a w R' hw hm hmk hf => ?_)
      have e30 : a.eval (.tmp 30) = (.pointer (some ⟨gf, 1, none⟩) : Value) := (hf 30 (by decide +kernel)).new 14 (by kernel_rfl) (by kernel_rfl)
      simp only [Act.eval, Array.getD_eq_getD_getElem?] at e30
      have hbx := hm.left.right
      have q0 := hbx.cell 1
      simp only [List.getElem?_cons_zero, List.getElem?_cons_succ] at q0
      simp [execOp, resolve, invoke, builtin, go_sem, e30, q0]
    · refine Fine2.run ⟨_, rfl, by kernel_rfl, by kernel_rfl, fun _ h => h⟩ _ rfl (fun _ => rfl) rfl rfl (fun L a w R' hw hm hmk hf => ?_)
      have e3 : a.eval (.tmp 3) = (.pointer (some ⟨w0.heap.size, 0, none⟩) : Value) := (hf 3 (by decide +kernel)).old (by kernel_rfl)
      simp only [Act.eval, Array.getD_eq_getD_getElem?] at e3
      simp [execOp, resolve, invoke, builtin, go_sem, e3]
    · refine Fine2.run ⟨_, rfl, by kernel_rfl, by kernel_rfl, fun _ h => h⟩ _ rfl (fun _ => rfl) rfl rfl (fun L a w R' hw hm hmk hf => ?_)
      have e32 : a.eval (.tmp 32) = (.pointer (some ⟨w0.heap.size, 1, none⟩) : Value) := (hf 32 (by decide +kernel)).new 16 (by kernel_rfl) (by kernel_rfl)
      simp only [Act.eval, Array.getD_eq_getD_getElem?] at e32
      have hbx := hm.left
      have q0 := hbx.cell 1
      simp only [List.getElem?_cons_zero, List.getElem?_cons_succ] at q0
      simp [execOp, resolve, invoke, builtin, go_sem, e32, q0]
    · refine Fine2.run ⟨_, rfl, by kernel_rfl, by kernel_rfl, fun _ h => h⟩ _ rfl (fun _ => rfl) rfl rfl (fun L a w R' hw hm hmk hf => ?_)
      have e31 : a.eval (.tmp 31) = (.int .i64 0 : Value) := (hf 31 (by decide +kernel)).new 15 (by kernel_rfl) (by kernel_rfl)
      have e33 : a.eval (.tmp 33) = (.int .i64 0 : Value) := (hf 33 (by decide +kernel)).new 17 (by kernel_rfl) (by kernel_rfl)
      simp only [Act.eval, Array.getD_eq_getD_getElem?] at e31 e33
      simp [execOp, resolve, invoke, builtin, go_sem, e31, e33]
    · refine Fine2.run trivial _ rfl (fun _ => rfl) rfl rfl (fun L a w R' hw hm hmk hf => ?_)
      have e27 : a.eval (.tmp 27) = (.bool false : Value) := (hf 27 (by decide +kernel)).new 11 (by kernel_rfl) (by kernel_rfl)
      have e34 : a.eval (.tmp 34) = (.bool false : Value) := (hf 34 (by decide +kernel)).new 18 (by kernel_rfl) (by kernel_rfl)
      simp only [Act.eval, Array.getD_eq_getD_getElem?] at e27 e34
      simp [execOp, resolve, invoke, builtin, go_sem, e27, e34]
  · intro u w9 hu hm9
    have hb : u 35 = .bool false := hu 35 19 rfl
    have hm8 : Mem wb w9 (pts w0.heap.size 31 [.string s, .int .i64 0, .int .i64 c] * (pts gf 77 [.string s, .int .i64 0, .iface 45 (.int .i64 c)] * R)) := hm9.left
    have q0 := hm8.right.cell 2
    have b2 := hm8.cell 2
    simp only [List.getElem?_cons_zero, List.getElem?_cons_succ] at q0 b2
    have HM8 := hid (Mem.faultB.2 ⟨gf, rfl, hm8.right⟩ : Mem wb w9 (faultB s 0 c (.iface 75 (.pointer (some ⟨gf, 0, none⟩))) * R))
    simp only [putAll]
    rw [hb]
    clear hm9 hm8 hu hb HM HH
    go_simp
    go_wp2_with fail
    go_ret
    exact ⟨rfl, HM8.out⟩

theorem refRoom_any (w : World) (s : Int) (h1 : -9223372036854775808 ≤ s) (h2 : s ≤ 9223372036854775807) : Calls Try.prog 10 #[.int .i64 s] w fun e w' => e = .returned (.int .i64 (roomOf s.toNat : Nat)) ∧ w = w' := by
  by_cases h5 : s < 5
  · go_enter Try.func10, Try.ntmps10
    go_wp2
    go_ret
    exact ⟨ret_int (by unfold roomOf; rw [if_pos (by omega)]; rfl), rfl⟩
  · by_cases hq : (s - 1) / 4 ≤ 250
    · go_enter Try.func10, Try.ntmps10
      go_wp2
      all_goals
        go_ret
        exact ⟨ret_int (by unfold roomOf; rw [if_neg (by omega)]; omega), rfl⟩
    · go_enter Try.func10, Try.ntmps10
      go_wp2
      all_goals
        go_ret
        exact ⟨ret_int (by unfold roomOf; rw [if_neg (by omega)]; omega), rfl⟩
theorem refNeed_any (w : World) (p : Int) : Calls Try.prog 12 #[.int .i64 p] w fun e w' => e = .returned (.int .i64 (needOf p)) ∧ w = w' := by
  by_cases h1 : p < 1
  · go_enter Try.func12, Try.ntmps12
    go_wp2
    go_ret
    exact ⟨ret_int (by unfold needOf; rw [if_pos (by omega)]), rfl⟩
  · by_cases h2 : 250 < p
    · go_enter Try.func12, Try.ntmps12
      go_wp2
      go_ret
      exact ⟨ret_int (by unfold needOf; rw [if_pos (by omega)]), rfl⟩
    · go_enter Try.func12, Try.ntmps12
      go_wp2
      go_ret
      exact ⟨ret_int (by unfold needOf; rw [if_neg (by omega)]), rfl⟩
end Go.Proofs.Ytpaebopmppbjbaa
