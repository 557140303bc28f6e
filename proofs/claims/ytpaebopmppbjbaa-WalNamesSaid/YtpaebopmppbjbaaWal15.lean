/- The walk of wal's Read, where the disk answers. -/
import Derived.Test.YtpaebopmppbjbaaWal14
set_option linter.unusedVariables false
set_option linter.unusedSimpArgs false
namespace Go.Proofs.Ytpaebopmppbjbaa
open Go Go.RowKit Go.Le
theorem Clipb_any (w : World) (a : Option Addr) (n c : Nat) (hn : n ≤ c) (hc : c ≤ 9223372036854775807) :
    Calls Try.prog 58 #[.slice a n c] w fun e w' => e = .returned (.slice a n n) ∧ w = w' := by
  have h1 : (n : Int) ≤ (c : Int) := by omega
  have h2 : ¬ c < n := by omega
  go_enter Try.func58, Try.ntmps58
  go_wp2
  go_ret
  by_cases h0 : c = 0
  · have : n = 0 := by omega
    subst this; subst h0
    exact ⟨rfl, rfl⟩
  · exact ⟨rfl, rfl⟩
theorem enters57 (args : Array Value) (w : World) : (callFunc 57 args).run Try.prog w = .ok (.enter 57 args) w :=
  enters_body Try.func57 (by kernel_rfl) rfl args w

set_option maxRecDepth 20000 in
set_option maxHeartbeats 4000000 in
theorem Read_ok (wb w0 : World) (R : HP) (g gl p n : Nat) (D : Dev) (h : Mem wb w0 (logB g p .nilIface gl * (devAt T8 g D * R))) (hpl : D.pend.length ≤ 900000000) (hn : n < p) (hp : p ≤ 1000) (pg : List UInt8) (D' : Dev) (hio : ioPage p n D = (.ok pg, D')) :
    Calls Try.prog 33 #[.pointer (some ⟨gl, 0, none⟩), .int .i64 (n : Int)] w0 fun e w' => ∃ a, e = .returned (.tuple #[.slice a pg.length pg.length, .nilIface]) ∧ D' = D ∧ pg.length = 1024 ∧
      Mem wb w' (row 5 1 a pg.length pg.length (byts pg) * (logB g p .nilIface gl * (devAt T8 g D * R))) := by
  have hmf : ∀ (fn : Fn) (first cap : Array Value) (w : World), (Instr.makeFunc fn first cap).run Try.prog w = .ok (.func fn first cap) w := fun _ _ _ _ => rfl
  have h1 := h.alloc [.pointer (some ⟨gl, 0, none⟩)] 22
  have h2 := h1.alloc [.int .i64 (n : Int)] 3
  have s1 : (w0.alloc (.cells #[.pointer (some ⟨gl, 0, none⟩)] 22)).heap.size = w0.heap.size + 1 := by simp
  have hm0 := h2.eq (by unfold logB; rw [← s1]; ac_rfl : _ = (pts gl 60 [.pointer (some ⟨g, 0, none⟩), .int .i64 (p : Int), .nilIface] * (pts w0.heap.size 22 [.pointer (some ⟨gl, 0, none⟩)] * (pts (w0.heap.size + 1) 3 [.int .i64 (n : Int)] * (devAt T8 g D * R)))))
  have c1 := hm0.cell 1
  have c2 := hm0.cell 2
  have d0 := hm0.p1.cell 0
  simp only [List.getElem?_cons_zero, List.getElem?_cons_succ] at c1 c2 d0
  have HM := hid hm0
  have hpn : ¬ (p : Int) ≤ (n : Int) := by omega
  have HIO := hid hio
  clear h h1 h2 s1 hm0 hio
  go_enter Try.func33, Try.ntmps33
  go_wp2_with fail
  refine region_mem (by kernel_rfl) (V := fun jv x => match jv with | 0 => x = (.int .i64 (n : Int) : Value) | 1 => x = (.bool false : Value) | 2 => x = (.bool false : Value) | 3 => x = (.int .i64 (n : Int) : Value) | 4 => x = (.pointer (some ⟨gl, 0, none⟩) : Value) | 5 => x = (.pointer (some ⟨gl, 0, none⟩) : Value) | 6 => x = (.pointer (some ⟨gl, 0, none⟩) : Value) | 7 => x = (.pointer (some ⟨gl, 1, none⟩) : Value) | 8 => x = (.int .i64 (p : Int) : Value) | 9 => x = (.bool false : Value) | 10 => x = (.bool false : Value) | _ => True) (A := (fun _ => (pts gl 60 [.pointer (some ⟨g, 0, none⟩), .int .i64 (p : Int), .nilIface] * (pts w0.heap.size 22 [.pointer (some ⟨gl, 0, none⟩)] * (pts (w0.heap.size + 1) 3 [.int .i64 (n : Int)] * (devAt T8 g D * R)))))) (Bs := []) HM.out (fun _ _ _ => rfl) (show ([] : List Nat).Nodup by decide) (by kernel_rfl) (by kernel_rfl) ?_ ?_
  · refine ⟨?_, ?_, ?_, ?_, ?_, ?_, ?_, ?_, ?_, ?_, ?_, trivial⟩
    · refine Fine2.run trivial _ rfl (fun _ => rfl) rfl rfl (fun L a w R' hw hm hmk hf => ?_)
      have e3 : a.eval (.tmp 3) = (.pointer (some ⟨w0.heap.size + 1, 0, none⟩) : Value) := (hf 3 (by decide +kernel)).old (by kernel_rfl)
      simp only [Act.eval, Array.getD_eq_getD_getElem?] at e3
      have hbx := hm.left.right.right
      have q0 := hbx.cell 0
      simp only [List.getElem?_cons_zero] at q0
      simp [execOp, resolve, invoke, builtin, go_sem, e3, q0]
    · refine Fine2.run trivial _ rfl (fun _ => rfl) rfl rfl (fun L a w R' hw hm hmk hf => ?_)
      have e14 : a.eval (.tmp 14) = (.int .i64 (n : Int) : Value) := (hf 14 (by decide +kernel)).new 0 (by kernel_rfl) (by kernel_rfl)
      simp only [Act.eval, Array.getD_eq_getD_getElem?] at e14
      simp [execOp, resolve, invoke, builtin, go_sem, e14]
    · refine Fine2.run trivial _ rfl (fun _ => rfl) rfl rfl (fun L a w R' hw hm hmk hf => ?_)
      have e15 : a.eval (.tmp 15) = (.bool false : Value) := (hf 15 (by decide +kernel)).new 1 (by kernel_rfl) (by kernel_rfl)
      simp only [Act.eval, Array.getD_eq_getD_getElem?] at e15
      simp [execOp, resolve, invoke, builtin, go_sem, e15]
    · refine Fine2.run ⟨_, rfl, by kernel_rfl, by kernel_rfl, fun _ h => h⟩ _ rfl (fun _ => rfl) rfl rfl (fun L a w R' hw hm hmk hf => ?_)
      have e3 : a.eval (.tmp 3) = (.pointer (some ⟨w0.heap.size + 1, 0, none⟩) : Value) := (hf 3 (by decide +kernel)).old (by kernel_rfl)
      simp only [Act.eval, Array.getD_eq_getD_getElem?] at e3
      have hbx := hm.left.right.right
      have q0 := hbx.cell 0
      simp only [List.getElem?_cons_zero] at q0
      simp [execOp, resolve, invoke, builtin, go_sem, e3, q0]
    · refine Fine2.run ⟨_, rfl, by kernel_rfl, by kernel_rfl, fun _ h => h⟩ _ rfl (fun _ => rfl) rfl rfl (fun L a w R' hw hm hmk hf => ?_)
      have e2 : a.eval (.tmp 2) = (.pointer (some ⟨w0.heap.size, 0, none⟩) : Value) := (hf 2 (by decide +kernel)).old (by kernel_rfl)
      simp only [Act.eval, Array.getD_eq_getD_getElem?] at e2
      have hbx := hm.left.right
      have q0 := hbx.cell 0
      simp only [List.getElem?_cons_zero] at q0
      simp [execOp, resolve, invoke, builtin, go_sem, e2, q0]
    · refine Fine2.run ⟨_, rfl, by kernel_rfl, by kernel_rfl, fun _ h => h⟩ _ rfl (fun _ => rfl) rfl rfl (fun L a w R' hw hm hmk hf => ?_)
      have e18 : a.eval (.tmp 18) = (.pointer (some ⟨gl, 0, none⟩) : Value) := (hf 18 (by decide +kernel)).new 4 (by kernel_rfl) (by kernel_rfl)
      simp only [Act.eval, Array.getD_eq_getD_getElem?] at e18
      simp [execOp, resolve, invoke, builtin, go_sem, e18]
    · refine Fine2.run ⟨_, rfl, by kernel_rfl, by kernel_rfl, fun _ h => h⟩ _ rfl (fun _ => rfl) rfl rfl (fun L a w R' hw hm hmk hf => ?_)
      have e19 : a.eval (.tmp 19) = (.pointer (some ⟨gl, 0, none⟩) : Value) := (hf 19 (by decide +kernel)).new 5 (by kernel_rfl) (by kernel_rfl)
      simp only [Act.eval, Array.getD_eq_getD_getElem?] at e19
      simp [execOp, resolve, invoke, builtin, go_sem, e19]
    · refine Fine2.run ⟨_, rfl, by kernel_rfl, by kernel_rfl, fun _ h => h⟩ _ rfl (fun _ => rfl) rfl rfl (fun L a w R' hw hm hmk hf => ?_)
      have e20 : a.eval (.tmp 20) = (.pointer (some ⟨gl, 0, none⟩) : Value) := (hf 20 (by decide +kernel)).new 6 (by kernel_rfl) (by kernel_rfl)
      simp only [Act.eval, Array.getD_eq_getD_getElem?] at e20
      simp [execOp, resolve, invoke, builtin, go_sem, e20]
    · refine Fine2.run ⟨_, rfl, by kernel_rfl, by kernel_rfl, fun _ h => h⟩ _ rfl (fun _ => rfl) rfl rfl (fun L a w R' hw hm hmk hf => ?_)
      have e21 : a.eval (.tmp 21) = (.pointer (some ⟨gl, 1, none⟩) : Value) := (hf 21 (by decide +kernel)).new 7 (by kernel_rfl) (by kernel_rfl)
      simp only [Act.eval, Array.getD_eq_getD_getElem?] at e21
      have hbx := hm.left
      have q1 := hbx.cell 1
      simp only [List.getElem?_cons_zero, List.getElem?_cons_succ] at q1
      simp [execOp, resolve, invoke, builtin, go_sem, e21, q1]
    · refine Fine2.run ⟨_, rfl, by kernel_rfl, by kernel_rfl, fun _ h => h⟩ _ rfl (fun _ => rfl) rfl rfl (fun L a w R' hw hm hmk hf => ?_)
      have e17 : a.eval (.tmp 17) = (.int .i64 (n : Int) : Value) := (hf 17 (by decide +kernel)).new 3 (by kernel_rfl) (by kernel_rfl)
      have e22 : a.eval (.tmp 22) = (.int .i64 (p : Int) : Value) := (hf 22 (by decide +kernel)).new 8 (by kernel_rfl) (by kernel_rfl)
      simp only [Act.eval, Array.getD_eq_getD_getElem?] at e17 e22
      simp [execOp, resolve, invoke, builtin, go_sem, e17, e22, hpn, hn]
    · refine Fine2.run trivial _ rfl (fun _ => rfl) rfl rfl (fun L a w R' hw hm hmk hf => ?_)
      have e16 : a.eval (.tmp 16) = (.bool false : Value) := (hf 16 (by decide +kernel)).new 2 (by kernel_rfl) (by kernel_rfl)
      have e23 : a.eval (.tmp 23) = (.bool false : Value) := (hf 23 (by decide +kernel)).new 9 (by kernel_rfl) (by kernel_rfl)
      simp only [Act.eval, Array.getD_eq_getD_getElem?] at e16 e23
      simp [execOp, resolve, invoke, builtin, go_sem, e16, e23]
  · intro u w9 hu hm9
    have hL : u 24 = .bool false := hu 24 10 rfl
    have hm8 : Mem wb w9 (pts gl 60 [.pointer (some ⟨g, 0, none⟩), .int .i64 (p : Int), .nilIface] * (pts w0.heap.size 22 [.pointer (some ⟨gl, 0, none⟩)] * (pts (w0.heap.size + 1) 3 [.int .i64 (n : Int)] * (devAt T8 g D * R)))) := hm9.left
    have hA := (hm8.alloc [.slice none 0 0] 37).eq (by ac_rfl : _ = (pts gl 60 [.pointer (some ⟨g, 0, none⟩), .int .i64 (p : Int), .nilIface] * (pts w0.heap.size 22 [.pointer (some ⟨gl, 0, none⟩)] * (pts (w0.heap.size + 1) 3 [.int .i64 (n : Int)] * (pts w9.heap.size 37 [.slice none 0 0] * devAt T8 g D)))) * R)
    have HCA := hid (caught_any wb _ (pts gl 60 [.pointer (some ⟨g, 0, none⟩), .int .i64 (p : Int), .nilIface] * (pts w0.heap.size 22 [.pointer (some ⟨gl, 0, none⟩)] * (pts (w0.heap.size + 1) 3 [.int .i64 (n : Int)] * (pts w9.heap.size 37 [.slice none 0 0] * devAt T8 g D)))) (fun c => pur (c = 0 ∧ D' = D ∧ pg.length = 1024) * (pts gl 60 [.pointer (some ⟨g, 0, none⟩), .int .i64 (p : Int), .nilIface] * (pts w0.heap.size 22 [.pointer (some ⟨gl, 0, none⟩)] * (pts (w0.heap.size + 1) 3 [.int .i64 (n : Int)] * devAt T8 g D)) * (ex fun x : Option Addr × Nat => pts w9.heap.size 37 [.slice x.1 pg.length x.2] * row 5 1 x.1 pg.length x.2 (byts pg)))) R hA 57 #[.pointer (some ⟨w0.heap.size, 0, none⟩), .pointer (some ⟨w0.heap.size + 1, 0, none⟩), .pointer (some ⟨w9.heap.size, 0, none⟩)] (fun w => enters57 _ w)
      (fun w1 R1 hm1 => (Read1_ok wb w1 R1 g gl _ _ _ p n .nilIface (.slice none 0 0) D (hm1.eq (by ac_rfl)) hpl (by omega) hp pg D' HIO.out).mono fun e w2 ⟨he, h3, h4, hm2⟩ => .inl ⟨he, by
        rw [sep_assoc, Mem.pur]
        exact ⟨⟨rfl, h3, h4⟩, hm2.eq (by ac_rfl)⟩⟩))
    simp only [putAll]
    rw [hL]
    clear hm9 hm8 hA hu hL HM
    go_simp
    go_wp2_with fail
    refine HCA.out.mono ?_
    rintro e w3 ⟨c, rfl, hm3⟩
    dsimp only
    rw [sep_assoc, Mem.pur] at hm3
    obtain ⟨⟨rfl, h4, h5⟩, hm4⟩ := hm3
    obtain ⟨⟨a, cc⟩, hm5⟩ := Mem.exl.1 (hm4.eq (by ac_rfl : _ = (ex fun x : Option Addr × Nat => pts w9.heap.size 37 [.slice x.1 pg.length x.2] * row 5 1 x.1 pg.length x.2 (byts pg)) * (pts gl 60 [.pointer (some ⟨g, 0, none⟩), .int .i64 (p : Int), .nilIface] * (pts w0.heap.size 22 [.pointer (some ⟨gl, 0, none⟩)] * (pts (w0.heap.size + 1) 3 [.int .i64 (n : Int)] * devAt T8 g D)) * R)))
    rw [sep_assoc] at hm5
    have e0 := hm5.cell 0
    simp only [List.getElem?_cons_zero] at e0
    have hsl := hm5.right.row_sl
    have HCL := hid (Clipb_any w3 a pg.length cc hsl.le hsl.cap)
    have HF := hid (hm5.right.clip.eq (by unfold logB; ac_rfl : _ = pts w0.heap.size 22 [.pointer (some ⟨gl, 0, none⟩)] * (pts (w0.heap.size + 1) 3 [.int .i64 (n : Int)] * (row 5 1 a pg.length pg.length (byts pg) * (logB g p .nilIface gl * (devAt T8 g D * R))))))
    have H45 := hid (And.intro h4 h5)
    clear hm4 hm5 hsl HCA h4 h5
    go_wp2_with fail
    refine HCL.out.mono ?_
    rintro e w' ⟨rfl, rfl⟩
    dsimp only
    go_wp2_with fail
    go_ret2
    exact ⟨a, rfl, H45.out.1, H45.out.2, HF.out.right.right⟩
end Go.Proofs.Ytpaebopmppbjbaa
