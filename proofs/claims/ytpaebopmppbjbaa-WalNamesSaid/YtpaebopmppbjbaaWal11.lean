/- The walk of wal's Open. -/
import Derived.Test.YtpaebopmppbjbaaWal10
set_option linter.unusedVariables false
set_option linter.unusedSimpArgs false
namespace Go.Proofs.Ytpaebopmppbjbaa
open Go Go.RowKit Go.Le
/-- an error with a call around it -/
def faultB (s : ByteArray) (at' c : Int) (v : Value) : HP := ex fun gf : Nat => pur (v = .iface 75 (.pointer (some ⟨gf, 0, none⟩))) * pts gf 77 [.string s, .int .i64 at', .iface 45 (.int .i64 c)]
theorem Mem.faultB {wb w : World} {R : HP} {s : ByteArray} {at' c : Int} {v : Value} : Mem wb w (Ytpaebopmppbjbaa.faultB s at' c v * R) ↔ ∃ gf, v = .iface 75 (.pointer (some ⟨gf, 0, none⟩)) ∧ Mem wb w (pts gf 77 [.string s, .int .i64 at', .iface 45 (.int .i64 c)] * R) := by
  unfold Ytpaebopmppbjbaa.faultB
  rw [Mem.exl]
  constructor
  · rintro ⟨gf, h⟩
    rw [sep_assoc, Mem.pur] at h
    exact ⟨gf, h.1, h.2⟩
  · rintro ⟨gf, h1, h2⟩
    exact ⟨gf, by rw [sep_assoc, Mem.pur]; exact ⟨h1, h2⟩⟩
/-- an open log -/
def logB (g p : Nat) (er : Value) (gl : Nat) : HP := pts gl 60 [.pointer (some ⟨g, 0, none⟩), .int .i64 (p : Int), er]
/-- what Open answers -/
def OpenSays (wb : World) (g : Nat) (R : HP) (res : Except Int (Nat × Bool) × Dev) (e : Ending) (w' : World) : Prop :=
  match res with
  | (.ok x, D') => ∃ gl, e = .returned (.tuple #[.pointer (some ⟨gl, 0, none⟩), .bool x.2, .nilIface]) ∧ Mem wb w' (logB g x.1 .nilIface gl * (devAt T8 g D' * R))
  | (.error c, D') => ∃ v, e = .returned (.tuple #[.pointer none, .bool false, v]) ∧ c ≠ 0 ∧ Mem wb w' (faultB ⟨#[79, 112, 101, 110]⟩ 0 c v * (devAt T8 g D' * R))

/-- a call of a function that has a body enters it -/
theorem enters_body {P : Program} {f : FuncId} {fn : Func} {c : Code} (hf : P.funcs[f]? = some fn) (hn : (fn.name == "runtime.NumGoroutine") = false) (hb : fn.body = some c) (args : Array Value) (w : World) : (callFunc f args).run P w = .ok (.enter f args) w := by
  have h1 : fn.name ≠ "runtime.NumGoroutine" := by simpa using hn
  simp [callFunc, hf, h1, hb, mark]
theorem enters18 (args : Array Value) (w : World) : (callFunc 18 args).run Try.prog w = .ok (.enter 18 args) w :=
  enters_body Try.func18 (by kernel_rfl) rfl args w
set_option maxRecDepth 20000 in
set_option maxHeartbeats 8000000 in
theorem Open_any (wb w0 : World) (R : HP) (g : Nat) (D : Dev) (h : Mem wb w0 (devAt T8 g D * R)) (hpl : D.pend.length ≤ 700000000) :
    Calls Try.prog 5 #[.pointer (some ⟨g, 0, none⟩)] w0 (OpenSays wb g R (ioOpen D)) := by
  have hmf : ∀ (fn : Fn) (first cap : Array Value) (w : World), (Instr.makeFunc fn first cap).run Try.prog w = .ok (.func fn first cap) w := fun _ _ _ _ => rfl
  have h1 := h.alloc [.pointer (some ⟨g, 0, none⟩)] 41
  have h2 := h1.alloc [.pointer none] 22
  have h3 := h2.alloc [.bool false] 4
  have s1 : (w0.alloc (.cells #[.pointer (some ⟨g, 0, none⟩)] 41)).heap.size = w0.heap.size + 1 := by simp
  have s2 : ((w0.alloc (.cells #[.pointer (some ⟨g, 0, none⟩)] 41)).alloc (.cells #[.pointer none] 22)).heap.size = w0.heap.size + 1 + 1 := by simp
  have HCA := hid (caught_any wb _ (devAt T8 g D * (pts w0.heap.size 41 [.pointer (some ⟨g, 0, none⟩)] * (pts (w0.heap.size + 1 + 1) 4 [.bool false] * pts (w0.heap.size + 1) 22 [.pointer none]))) (openB g D w0.heap.size (w0.heap.size + 1 + 1) (w0.heap.size + 1)) R
    (h3.eq (by rw [← s2, ← s1]; ac_rfl)) 18 #[.pointer (some ⟨w0.heap.size, 0, none⟩), .pointer (some ⟨w0.heap.size + 1 + 1, 0, none⟩), .pointer (some ⟨w0.heap.size + 1, 0, none⟩)] (fun w => enters18 _ w)
    (fun w1 R1 hm1 => Open1_any wb w1 R1 g _ _ _ D false (.pointer none) (hm1.eq (by ac_rfl)) hpl))
  clear h h1 h2 h3 s1 s2
  go_enter Try.func5, Try.ntmps5
  go_wp2_with fail
  refine HCA.out.mono ?_
  rintro e w2 ⟨c, rfl, hm⟩
  dsimp only
  clear HCA
  by_cases hc : c = 0
  · subst hc
    unfold openB at hm
    rw [if_pos rfl] at hm
    obtain ⟨⟨D', p, av, gl⟩, hm⟩ := Mem.exl.1 hm
    rw [sep_assoc, Mem.pur] at hm
    obtain ⟨hio, hm⟩ := hm
    dsimp only at hio hm
    have HIO := hid hio
    obtain ⟨R2, HR2d⟩ : ∃ R2, Hid (R2 = logB g p .nilIface gl * (devAt T8 g D' * (pts w0.heap.size 41 [.pointer (some ⟨g, 0, none⟩)] * R))) := ⟨_, hid rfl⟩
    have HM := hid (hm.eq (by rw [HR2d.out]; unfold logB; ac_rfl : _ = (pts (w0.heap.size + 1) 22 [.pointer (some ⟨gl, 0, none⟩)] * (pts (w0.heap.size + 1 + 1) 4 [.bool av] * R2))))
    clear hm hio
    go_wp2_with fail
    refine region_mem (by kernel_rfl) (V := fun jv x => match jv with | 0 => x = (.pointer (some ⟨gl, 0, none⟩) : Value) | 1 => x = (.bool av : Value) | 2 => x = undef | 3 => x = undef | 4 => x = (.nilIface : Value) | _ => True) (A := (fun _ => (pts (w0.heap.size + 1) 22 [.pointer (some ⟨gl, 0, none⟩)] * (pts (w0.heap.size + 1 + 1) 4 [.bool av] * R2)))) (Bs := []) HM.out (fun _ _ _ => rfl) (show ([] : List Nat).Nodup by decide) (by kernel_rfl) (by kernel_rfl) ?_ ?_
    · refine ⟨?_, ?_, ?_, ?_, ?_, trivial⟩
      · refine Fine2.run trivial _ rfl (fun _ => rfl) rfl rfl (fun L a w R' hw hm hmk hf => ?_)
        have e2 : a.eval (.tmp 2) = (.pointer (some ⟨w0.heap.size + 1, 0, none⟩) : Value) := (hf 2 (by decide +kernel)).old (by kernel_rfl)
        simp only [Act.eval, Array.getD_eq_getD_getElem?] at e2
        have hbx := hm.left
        have q0 := hbx.cell 0
        simp only [List.getElem?_cons_zero] at q0
        simp [execOp, resolve, invoke, builtin, go_sem, e2, q0]
      · refine Fine2.run trivial _ rfl (fun _ => rfl) rfl rfl (fun L a w R' hw hm hmk hf => ?_)
        have e3 : a.eval (.tmp 3) = (.pointer (some ⟨w0.heap.size + 1 + 1, 0, none⟩) : Value) := (hf 3 (by decide +kernel)).old (by kernel_rfl)
        simp only [Act.eval, Array.getD_eq_getD_getElem?] at e3
        have hbx := hm.left.right
        have q0 := hbx.cell 0
        simp only [List.getElem?_cons_zero] at q0
        simp [execOp, resolve, invoke, builtin, go_sem, e3, q0]
      · refine Fine2.store trivial rfl (fun L a w R' hL hw hm hmk hf => ?_)
        rw [eaten_none rfl, emp_sep] at hm
        have e2 : a.eval (.tmp 2) = (.pointer (some ⟨w0.heap.size + 1, 0, none⟩) : Value) := (hf 2 (by decide +kernel)).old (by kernel_rfl)
        have e12 : a.eval (.tmp 12) = (.pointer (some ⟨gl, 0, none⟩) : Value) := (hf 12 (by decide +kernel)).new 0 (by kernel_rfl) (by kernel_rfl)
        simp only [Act.eval, Array.getD_eq_getD_getElem?] at e2 e12
        have hbx := (hm : Mem wb w ((pts (w0.heap.size + 1) 22 [.pointer (some ⟨gl, 0, none⟩)] * (pts (w0.heap.size + 1 + 1) 4 [.bool av] * R2)) * R')).left
        have q0 := hbx.cell 0
        have f0 := hbx.frozen 0
        simp only [List.getElem?_cons_zero] at q0
        refine ⟨w.setCell ⟨w0.heap.size + 1, 0, none⟩ (.pointer (some ⟨gl, 0, none⟩)), ?_, ?_⟩
        · simp [execOp, resolve, invoke, builtin, go_sem, e2, e12, q0, f0]
        · have hs := (hm : Mem wb w ((pts (w0.heap.size + 1) 22 [.pointer (some ⟨gl, 0, none⟩)] * (pts (w0.heap.size + 1 + 1) 4 [.bool av] * R2)) * R')).eq (sep_assoc _ _ _) |>.setCell 0 (.pointer (some ⟨gl, 0, none⟩))
          show Mem wb _ ((pts (w0.heap.size + 1) 22 [.pointer (some ⟨gl, 0, none⟩)] * (pts (w0.heap.size + 1 + 1) 4 [.bool av] * R2)) * (emp * R'))
          rw [emp_sep, sep_assoc]
          exact hs
      · refine Fine2.store trivial rfl (fun L a w R' hL hw hm hmk hf => ?_)
        rw [eaten_none rfl, emp_sep] at hm
        have e3 : a.eval (.tmp 3) = (.pointer (some ⟨w0.heap.size + 1 + 1, 0, none⟩) : Value) := (hf 3 (by decide +kernel)).old (by kernel_rfl)
        have e13 : a.eval (.tmp 13) = (.bool av : Value) := (hf 13 (by decide +kernel)).new 1 (by kernel_rfl) (by kernel_rfl)
        simp only [Act.eval, Array.getD_eq_getD_getElem?] at e3 e13
        have hbx := (hm : Mem wb w ((pts (w0.heap.size + 1) 22 [.pointer (some ⟨gl, 0, none⟩)] * (pts (w0.heap.size + 1 + 1) 4 [.bool av] * R2)) * R')).left.right
        have q0 := hbx.cell 0
        have f0 := hbx.frozen 0
        simp only [List.getElem?_cons_zero] at q0
        refine ⟨w.setCell ⟨w0.heap.size + 1 + 1, 0, none⟩ (.bool av), ?_, ?_⟩
        · simp [execOp, resolve, invoke, builtin, go_sem, e3, e13, q0, f0]
        · have hs := ((hm : Mem wb w ((pts (w0.heap.size + 1) 22 [.pointer (some ⟨gl, 0, none⟩)] * (pts (w0.heap.size + 1 + 1) 4 [.bool av] * R2)) * R')).eq (by ac_rfl : _ = pts (w0.heap.size + 1 + 1) 4 [.bool av] * (pts (w0.heap.size + 1) 22 [.pointer (some ⟨gl, 0, none⟩)] * (R2 * R')))).setCell 0 (.bool av)
          show Mem wb _ ((pts (w0.heap.size + 1) 22 [.pointer (some ⟨gl, 0, none⟩)] * (pts (w0.heap.size + 1 + 1) 4 [.bool av] * R2)) * (emp * R'))
          rw [emp_sep]
          exact hs.eq (by ac_rfl)
      · refine Fine2.run trivial _ rfl (fun _ => rfl) rfl rfl (fun L a w R' hw hm hmk hf => ?_)
        skip
        simp [execOp, resolve, invoke, builtin, go_sem]
    · intro u w9 hu hm9
      have hL : u 4 = .nilIface := hu 4 4 rfl
      have hm8 : Mem wb w9 (pts (w0.heap.size + 1) 22 [.pointer (some ⟨gl, 0, none⟩)] * (pts (w0.heap.size + 1 + 1) 4 [.bool av] * R2)) := hm9.left
      have c1 := hm8.cell 0
      have c2 := hm8.p1.cell 0
      simp only [List.getElem?_cons_zero] at c1 c2
      have HF := hm8.right.right
      rw [HR2d.out] at HF
      have HF2 := hid HF
      simp only [putAll]
      rw [hL]
      clear hm9 hm8 hu hL HM HF
      go_simp
      go_wp2_with fail
      have hg : (logB g p .nilIface gl * (devAt T8 g D' * (pts w0.heap.size 41 [.pointer (some ⟨g, 0, none⟩)] * R))) = pts w0.heap.size 41 [.pointer (some ⟨g, 0, none⟩)] * (logB g p .nilIface gl * (devAt T8 g D' * R)) := by ac_rfl
      refine bodyPost_ret (v := .tuple #[.pointer (some ⟨gl, 0, none⟩), .bool av, .nilIface]) (by simp [results, Try.results5, go_sem, c1, c2]) rfl ?_
      rw [HIO.out]
      exact ⟨gl, rfl, (HF2.out.eq hg).right⟩
  · have hcn : (c != 0) = true := by simpa using hc
    have HC := hid hc
    unfold openB at hm
    rw [if_neg hc] at hm
    obtain ⟨⟨D', av, lv⟩, hm⟩ := Mem.exl.1 hm
    rw [sep_assoc, Mem.pur] at hm
    obtain ⟨hio, hm⟩ := hm
    dsimp only at hio hm
    have HIO := hid hio
    have HFA := hid (fault_any wb w2 _ hm ⟨#[79, 112, 101, 110]⟩ 0 c)
    clear hm hio hc
    go_wp2_with fail
    refine HFA.out.mono ?_
    rintro e w3 ⟨gf, rfl, hm3⟩
    dsimp only
    have hb1 := hm3.eq (by ac_rfl : _ = pts (w0.heap.size + 1) 22 [lv] * (pts (w0.heap.size + 1 + 1) 4 [.bool av] * (pts w0.heap.size 41 [.pointer (some ⟨g, 0, none⟩)] * (pts gf 77 [.string ⟨#[79, 112, 101, 110]⟩, .int .i64 0, .iface 45 (.int .i64 c)] * (devAt T8 g D' * R)))))
    have c1 := hb1.cell 0
    have f1 := hb1.frozen 0
    have c2 := hb1.p1.cell 0
    have f2 := hb1.p1.frozen 0
    simp only [List.getElem?_cons_zero] at c1 c2
    have hs1 := hb1.setCell 0 (.pointer none)
    have hs2 := hs1.p1.setCell 0 (.bool false)
    simp only [List.set_cons_zero] at hs2
    have HS := hid hs2
    clear hm3 hb1 hs1 hs2 HFA
    go_wp2_with fail
    have d1 := HS.out.p1.cell 0
    have d2 := HS.out.cell 0
    simp only [List.getElem?_cons_zero, List.set_cons_zero] at d1 d2
    refine bodyPost_ret (v := .tuple #[.pointer none, .bool false, .iface 75 (.pointer (some ⟨gf, 0, none⟩))]) (by simp [results, Try.results5, go_sem, d1, d2]) rfl ?_
    rw [HIO.out]
    exact ⟨_, rfl, HC.out, Mem.faultB.2 ⟨gf, rfl, HS.out.right.right.right⟩⟩
end Go.Proofs.Ytpaebopmppbjbaa
