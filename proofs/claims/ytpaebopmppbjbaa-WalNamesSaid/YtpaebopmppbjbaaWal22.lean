/- The walk of the laws' list, of one page. -/
import Derived.Test.YtpaebopmppbjbaaWal21
set_option linter.unusedVariables false
set_option linter.unusedSimpArgs false
namespace Go.Le
open Go Go.RowKit
def rowB2 (u : TypeId) (n : Nat) (xs : List Value) (v : Value) : HP := ex fun x : Option Addr × Nat => pur (v = .slice x.1 n x.2) * row u 2 x.1 n x.2 xs
theorem Mem.rowB2 {wb w : World} {R : HP} {u : TypeId} {n : Nat} {xs : List Value} {v : Value} : Mem wb w (Le.rowB2 u n xs v * R) ↔ ∃ a c, v = .slice a n c ∧ Mem wb w (row u 2 a n c xs * R) := by
  unfold Le.rowB2
  rw [Mem.exl]
  constructor
  · rintro ⟨⟨a, c⟩, h⟩
    rw [sep_assoc, Mem.pur] at h
    exact ⟨a, c, h.1, h.2⟩
  · rintro ⟨a, c, h1, h2⟩
    exact ⟨(a, c), by rw [sep_assoc, Mem.pur]; exact ⟨h1, h2⟩⟩
/-- a slot that a later operation writes, and that waits for this one -/
theorem See.older {l : List Oper} {V : Vals} {a0 : Act} {o : Oper} {a : Act} {d : Tmp} (h : See l V a0 o a d) (j : Nat) (hw : writer l d = some j) (hb : waits .any o j = false) : a.eval (.tmp d) = a0.eval (.tmp d) := by
  unfold See at h; rw [hw] at h; simp only [hb] at h; exact h
end Go.Le
namespace Go.Proofs.Ytpaebopmppbjbaa
open Go Go.RowKit Go.Le
theorem mk4 : madeCells (Value.agg #[Value.int IntKind.i64 0, Value.slice none 0 0]).cells 4 = #[.int .i64 0, .slice none 0 0, .int .i64 0, .slice none 0 0] := by kernel_rfl

set_option maxRecDepth 20000 in
set_option maxHeartbeats 4000000 in
theorem list1_any (wb w : World) (R : HP) (gp nu : Nat) (hnu : nu ≤ 250) (f : UInt8) (h : Mem wb w (pts gp 71 [.int .i64 (nu : Int), .int .u8 (f.toNat : Int), .int .i64 0] * R)) :
    Calls Try.prog 32 #[.slice (some ⟨gp, 0, none⟩) 1 1, .bool false] w fun e w' => ∃ a c gb, e = .returned (.slice a 1 c) ∧ Mem wb w' (row 98 2 a 1 c [.int .i64 (nu : Int), .slice (some ⟨gb, 0, none⟩) 1024 1024] * (pts gb 5 (byts (pgBytes nu f)) * (pts gp 71 [.int .i64 (nu : Int), .int .u8 (f.toNat : Int), .int .i64 0] * R))) := by
  have HMK : ∀ w : World, (Instr.makeSlice 68 (.int .i64 0) (.int .i64 2)).run Try.prog w = .ok (.slice (some ⟨w.heap.size, 0, none⟩) 0 2) (w.alloc (.cells #[.int .i64 0, .slice none 0 0, .int .i64 0, .slice none 0 0] 98)) := by
    intro w
    obtain ⟨i, hi, hz, hs, hb⟩ := info_parts pwInfo
    have h1 := run_make (P := Try.prog) w 68 98 i _ Try.underlying68 hi hz .i64 .i64 0 2 (by omega) (by omega) (by rw [hb]; omega) (by omega)
    rw [h1, hs, show Int.toNat 2 * 2 = 4 from rfl, mk4]
    rfl
  have hmx := h.alloc [.int .i64 0, .slice none 0 0, .int .i64 0, .slice none 0 0] 98
  have hrow : Mem wb (w.alloc (.cells #[.int .i64 0, .slice none 0 0, .int .i64 0, .slice none 0 0] 98)) (row 98 2 (some ⟨w.heap.size, 0, none⟩) 0 2 [] * (pts gp 71 [.int .i64 (nu : Int), .int .u8 (f.toNat : Int), .int .i64 0] * R)) := Mem.of_row (rest := [.int .i64 0, .slice none 0 0, .int .i64 0, .slice none 0 0]) rfl (by rfl) (by omega) (by omega) (by simp) hmx
  have HM0 := hid hrow
  obtain ⟨pi, hi, hzz, hsz, hby⟩ := info_parts pwInfo
  have IH : Hid (Try.prog.info? 98 = some pi ∧ pi.zero = some (.agg #[.int .i64 0, .slice none 0 0]) ∧ pi.size = 2 ∧ pi.bytes = 32) := ⟨hi, hzz, hsz, hby⟩
  clear h hmx hrow hi hzz hsz hby
  generalize hgo : w.heap.size = go at *
  go_enter Try.func32, Try.ntmps32
  go_wp2_with fail
  clear HMK
  go_loopw [5, 6, 7, 8] (fun ov iv _ _ wr => (iv = .int .i64 0 ∧ ov = .slice (some ⟨go, 0, none⟩) 0 2 ∧ Mem wb wr (row 98 2 (some ⟨go, 0, none⟩) 0 2 [] * (pts gp 71 [.int .i64 (nu : Int), .int .u8 (f.toNat : Int), .int .i64 0] * R))) ∨ (iv = .int .i64 1 ∧ ∃ a c gb, ov = .slice a 1 c ∧ Mem wb wr (row 98 2 a 1 c [.int .i64 (nu : Int), .slice (some ⟨gb, 0, none⟩) 1024 1024] * (pts gb 5 (byts (pgBytes nu f)) * (pts gp 71 [.int .i64 (nu : Int), .int .u8 (f.toNat : Int), .int .i64 0] * R))))) (fun _ iv _ _ _ => 1 - (intOf iv).toNat)
  case atStart =>
    subst hgo
    exact .inl ⟨rfl, rfl, HM0.out⟩
  case round =>
    rcases hrel with ⟨rfl, rfl, hm⟩ | ⟨rfl, a, c, gb, rfl, hm⟩
    · have q0 := hm.right.cell 0
      have q1 := hm.right.cell 1
      have q2 := hm.right.cell 2
      simp only [List.getElem?_cons_zero, List.getElem?_cons_succ] at q0 q1 q2
      have HB := hid (lawBytes_any wb wr _ hm nu hnu f)
      clear hm HM0 hgo
      go_wp2_with fail
      refine HB.out.mono ?_
      rintro e w2 ⟨gb, rfl, hm2⟩
      dsimp only
      have HM := hid (hm2.eq (by ac_rfl : _ = row 98 2 (some ⟨go, 0, none⟩) 0 2 [] * (pts gp 71 [.int .i64 (nu : Int), .int .u8 (f.toNat : Int), .int .i64 0] * (pts gb 5 (byts (pgBytes nu f)) * R))))
      clear hm2 HB q0 q1 q2
      go_wp2_with fail
      refine region_mem (by kernel_rfl) (V := fun jv x => match jv with | 0 => x = (.slice (some ⟨go, 0, none⟩) 0 2 : Value) | 1 => x = (.slice (some ⟨gp, 0, none⟩) 1 1 : Value) | 2 => x = (.int .i64 0 : Value) | 3 => x = (.pointer (some ⟨gp, 0, none⟩) : Value) | 4 => x = (.pointer (some ⟨gp, 0, none⟩) : Value) | 5 => x = (.int .i64 (nu : Int) : Value) | 6 => x = (.slice (some ⟨gb, 0, none⟩) 1024 1024 : Value) | 7 => x = (.int .i64 1024 : Value) | 8 => x = (.slice (some ⟨gb, 0, none⟩) 1024 1024 : Value) | 9 => x = (.agg #[.int .i64 (nu : Int), .slice (some ⟨gb, 0, none⟩) 1024 1024] : Value) | 10 => ∃ g2, x = (.slice (some ⟨g2, 0, none⟩) 1 1 : Value) | 11 => ∃ a c, x = (.slice a 1 c : Value) | 12 => ∃ a c, x = (.slice a 1 c : Value) | _ => True) (A := (fun L => (if L 11 then emp else row 98 2 (some ⟨go, 0, none⟩) 0 2 []) * (pts gp 71 [.int .i64 (nu : Int), .int .u8 (f.toNat : Int), .int .i64 0] * (pts gb 5 (byts (pgBytes nu f)) * R)))) (Bs := [(10, none, blkB 98 1 [.int .i64 (nu : Int), .slice (some ⟨gb, 0, none⟩) 1024 1024]), (11, some 12, rowB2 98 1 [.int .i64 (nu : Int), .slice (some ⟨gb, 0, none⟩) 1024 1024]), (12, none, rowB2 98 1 [.int .i64 (nu : Int), .slice (some ⟨gb, 0, none⟩) 1024 1024])]) HM.out (fun L L' h => by show (if L 11 then _ else _) * _ = (if L' 11 then _ else _) * _; rw [h 11 (by decide)]) (show ([10, 11, 12] : List Nat).Nodup by decide) (by kernel_rfl) (by kernel_rfl) ?_ ?_
      · refine ⟨?_, ?_, ?_, ?_, ?_, ?_, ?_, ?_, ?_, ?_, ?_, ?_, ?_, trivial⟩
        · refine Fine2.run trivial _ rfl (fun _ => rfl) rfl rfl (fun L a w R' hw hm hmk hf => ?_)
          have e5 : a.eval (.tmp 5) = (.slice (some ⟨go, 0, none⟩) 0 2 : Value) := (hf 5 (by decide +kernel)).older 12 (by kernel_rfl) (by kernel_rfl)
          simp only [Act.eval, Array.getD_eq_getD_getElem?] at e5
          simp [execOp, resolve, invoke, builtin, go_sem, e5]
        · refine Fine2.run trivial _ rfl (fun _ => rfl) rfl rfl (fun L a w R' hw hm hmk hf => ?_)
          have e0 : a.eval (.tmp 0) = (.slice (some ⟨gp, 0, none⟩) 1 1 : Value) := (hf 0 (by decide +kernel)).old (by kernel_rfl)
          simp only [Act.eval, Array.getD_eq_getD_getElem?] at e0
          simp [execOp, resolve, invoke, builtin, go_sem, e0]
        · refine Fine2.run trivial _ rfl (fun _ => rfl) rfl rfl (fun L a w R' hw hm hmk hf => ?_)
          have e6 : a.eval (.tmp 6) = (.int .i64 0 : Value) := (hf 6 (by decide +kernel)).old (by kernel_rfl)
          simp only [Act.eval, Array.getD_eq_getD_getElem?] at e6
          simp [execOp, resolve, invoke, builtin, go_sem, e6]
        · refine Fine2.run trivial _ rfl (fun _ => rfl) rfl rfl (fun L a w R' hw hm hmk hf => ?_)
          have e35 : a.eval (.tmp 35) = (.slice (some ⟨gp, 0, none⟩) 1 1 : Value) := (hf 35 (by decide +kernel)).new 1 (by kernel_rfl) (by kernel_rfl)
          have e36 : a.eval (.tmp 36) = (.int .i64 0 : Value) := (hf 36 (by decide +kernel)).new 2 (by kernel_rfl) (by kernel_rfl)
          simp only [Act.eval, Array.getD_eq_getD_getElem?] at e35 e36
          simp [execOp, resolve, invoke, builtin, go_sem, e35, e36]
        · refine Fine2.run trivial _ rfl (fun _ => rfl) rfl rfl (fun L a w R' hw hm hmk hf => ?_)
          have e37 : a.eval (.tmp 37) = (.pointer (some ⟨gp, 0, none⟩) : Value) := (hf 37 (by decide +kernel)).new 3 (by kernel_rfl) (by kernel_rfl)
          simp only [Act.eval, Array.getD_eq_getD_getElem?] at e37
          simp [execOp, resolve, invoke, builtin, go_sem, e37]
        · refine Fine2.run trivial _ rfl (fun _ => rfl) rfl rfl (fun L a w R' hw hm hmk hf => ?_)
          have e38 : a.eval (.tmp 38) = (.pointer (some ⟨gp, 0, none⟩) : Value) := (hf 38 (by decide +kernel)).new 4 (by kernel_rfl) (by kernel_rfl)
          simp only [Act.eval, Array.getD_eq_getD_getElem?] at e38
          have hbx := hm.left.right
          have q0 := hbx.cell 0
          simp only [List.getElem?_cons_zero] at q0
          simp [execOp, resolve, invoke, builtin, go_sem, e38, q0]
        · refine Fine2.run trivial _ rfl (fun _ => rfl) rfl rfl (fun L a w R' hw hm hmk hf => ?_)
          have e7 : a.eval (.tmp 7) = (.slice (some ⟨gb, 0, none⟩) 1024 1024 : Value) := (hf 7 (by decide +kernel)).old (by kernel_rfl)
          simp only [Act.eval, Array.getD_eq_getD_getElem?] at e7
          simp [execOp, resolve, invoke, builtin, go_sem, e7]
        · refine Fine2.run trivial _ rfl (fun _ => rfl) rfl rfl (fun L a w R' hw hm hmk hf => ?_)
          have e8 : a.eval (.tmp 8) = (.int .i64 1024 : Value) := (hf 8 (by decide +kernel)).old (by kernel_rfl)
          simp only [Act.eval, Array.getD_eq_getD_getElem?] at e8
          simp [execOp, resolve, invoke, builtin, go_sem, e8]
        · refine Fine2.run trivial _ rfl (fun _ => rfl) rfl rfl (fun L a w R' hw hm hmk hf => ?_)
          have e40 : a.eval (.tmp 40) = (.slice (some ⟨gb, 0, none⟩) 1024 1024 : Value) := (hf 40 (by decide +kernel)).new 6 (by kernel_rfl) (by kernel_rfl)
          have e41 : a.eval (.tmp 41) = (.int .i64 1024 : Value) := (hf 41 (by decide +kernel)).new 7 (by kernel_rfl) (by kernel_rfl)
          simp only [Act.eval, Array.getD_eq_getD_getElem?] at e40 e41
          simp [execOp, resolve, invoke, builtin, go_sem, e40, e41]
        · refine Fine2.run trivial _ rfl (fun _ => rfl) rfl rfl (fun L a w R' hw hm hmk hf => ?_)
          have e39 : a.eval (.tmp 39) = (.int .i64 (nu : Int) : Value) := (hf 39 (by decide +kernel)).new 5 (by kernel_rfl) (by kernel_rfl)
          have e42 : a.eval (.tmp 42) = (.slice (some ⟨gb, 0, none⟩) 1024 1024 : Value) := (hf 42 (by decide +kernel)).new 8 (by kernel_rfl) (by kernel_rfl)
          simp only [Act.eval, Array.getD_eq_getD_getElem?] at e39 e42
          simp [execOp, resolve, invoke, builtin, go_sem, e39, e42]
        · refine Fine2.open trivial (fun L a w R' hL hw hm hmk hf => ?_)
          rw [eaten_none rfl, emp_sep] at hm
          have e43 : a.eval (.tmp 43) = (.agg #[.int .i64 (nu : Int), .slice (some ⟨gb, 0, none⟩) 1024 1024] : Value) := (hf 43 (by decide +kernel)).new 9 (by kernel_rfl) (by kernel_rfl)
          simp only [Act.eval, Array.getD_eq_getD_getElem?] at e43
          refine ⟨(.slice (some ⟨w.heap.size, 0, none⟩) 1 1), w.alloc (.cells #[.int .i64 (nu : Int), .slice (some ⟨gb, 0, none⟩) 1024 1024] 98), ?_, ⟨_, rfl⟩, ?_⟩
          · simp [execOp, resolve, invoke, builtin, go_sem, e43]
          · exact (Mem.blkB.2 ⟨_, rfl, hm.alloc [.int .i64 (nu : Int), .slice (some ⟨gb, 0, none⟩) 1024 1024] 98⟩ : Mem wb _ (blkB 98 1 [.int .i64 (nu : Int), .slice (some ⟨gb, 0, none⟩) 1024 1024] _ * _)).p1
        · refine Fine2.open trivial (fun L a w R' hL hw hm hmk hf => ?_)
          rw [eaten_none rfl, emp_sep] at hm
          obtain ⟨R3, hR3⟩ := hmk [true, false, false] (by kernel_rfl)
          have hm : Mem wb w ((if L 11 then emp else row 98 2 (some ⟨go, 0, none⟩) 0 2 []) * (pts gp 71 [.int .i64 (nu : Int), .int .u8 (f.toNat : Int), .int .i64 0] * (pts gb 5 (byts (pgBytes nu f)) * R)) * R') := hm
          rw [hL] at hm
          have hm : Mem wb w (row 98 2 (some ⟨go, 0, none⟩) 0 2 [] * (pts gp 71 [.int .i64 (nu : Int), .int .u8 (f.toNat : Int), .int .i64 0] * (pts gb 5 (byts (pgBytes nu f)) * R)) * R') := hm
          have hm2 := hm
          rw [hR3] at hm2
          obtain ⟨g2, y, m2⟩ := Mem.blkB.1 (show Mem wb w (_ * (_ * R3)) from hm2).p1
          have e44 : a.eval (.tmp 44) = .slice (some ⟨g2, 0, none⟩) 1 1 := y
          have e34 : a.eval (.tmp 34) = (.slice (some ⟨go, 0, none⟩) 0 2 : Value) := (hf 34 (by decide +kernel)).new 0 (by kernel_rfl) (by kernel_rfl)
          have h1 := hm.eq (sep_assoc _ _ _)
          obtain ⟨a3, c3, w', hr, hd, -, -⟩ := h1.append (P := Try.prog) 68 68 Try.underlying68 IH.out.1 IH.out.2.1 IH.out.2.2.1 IH.out.2.2.2 rfl (by omega) (by rfl : ([.int .i64 (nu : Int), .slice (some ⟨gb, 0, none⟩) 1024 1024] : List Value).length = 1 * 2) (news_built m2.blk.1) (fun h => by cases h) (by intro u hu; simp at hu; rcases hu with rfl | rfl <;> rfl) (by omega) (by omega)
          refine ⟨.slice a3 1 c3, w', ?_, ⟨a3, c3, rfl⟩, ?_⟩
          · have hr : (Builtin.append_ #[68, 68] 68 #[.slice (some ⟨go, 0, none⟩) 0 2, .slice (some ⟨g2, 0, none⟩) 1 1]).run Try.prog w = .ok (.slice a3 1 c3) w' := hr
            simp [execOp, resolve, invoke, builtin, e34, e44, hr, Result.andThen]
          · show Mem wb w' ((if doneSet L 11 11 then emp else row 98 2 (some ⟨go, 0, none⟩) 0 2 []) * (pts gp 71 [.int .i64 (nu : Int), .int .u8 (f.toNat : Int), .int .i64 0] * (pts gb 5 (byts (pgBytes nu f)) * R)) * (rowB2 98 1 [.int .i64 (nu : Int), .slice (some ⟨gb, 0, none⟩) 1024 1024] (.slice a3 1 c3) * R'))
            rw [show doneSet L 11 11 = true from rfl]
            have h9 : Mem wb w' (rowB2 98 1 [.int .i64 (nu : Int), .slice (some ⟨gb, 0, none⟩) 1024 1024] (.slice a3 1 c3) * ((pts gp 71 [.int .i64 (nu : Int), .int .u8 (f.toNat : Int), .int .i64 0] * (pts gb 5 (byts (pgBytes nu f)) * R)) * R')) := Mem.rowB2.2 ⟨a3, c3, rfl, hd.duo_row⟩
            exact h9.eq (by show _ = emp * (pts gp 71 [.int .i64 (nu : Int), .int .u8 (f.toNat : Int), .int .i64 0] * (pts gb 5 (byts (pgBytes nu f)) * R)) * (rowB2 98 1 [.int .i64 (nu : Int), .slice (some ⟨gb, 0, none⟩) 1024 1024] (.slice a3 1 c3) * R'); rw [emp_sep]; ac_rfl)
        · refine Fine2.open trivial (fun L a w R' hL hw hm hmk hf => ?_)
          have hm' : Mem wb w ((if L 11 then emp else row 98 2 (some ⟨go, 0, none⟩) 0 2 []) * (pts gp 71 [.int .i64 (nu : Int), .int .u8 (f.toNat : Int), .int .i64 0] * (pts gb 5 (byts (pgBytes nu f)) * R)) * ((emp * (rowB2 98 1 [.int .i64 (nu : Int), .slice (some ⟨gb, 0, none⟩) 1024 1024] (a.eval (.tmp 45)) * (emp * emp))) * R')) := hm
          rw [emp_sep, sep_emp, sep_emp] at hm'
          obtain ⟨a3, c3, e45, m1⟩ := Mem.rowB2.1 hm'.p1
          refine ⟨.slice a3 1 c3, w, ?_, ⟨a3, c3, rfl⟩, ?_⟩
          · have e45 : a.eval (.tmp 45) = .slice a3 1 c3 := e45
            simp only [Act.eval, Array.getD_eq_getD_getElem?] at e45
            simp [execOp, resolve, invoke, go_sem, e45]
          · show Mem wb w ((if doneSet L 12 11 then emp else row 98 2 (some ⟨go, 0, none⟩) 0 2 []) * (pts gp 71 [.int .i64 (nu : Int), .int .u8 (f.toNat : Int), .int .i64 0] * (pts gb 5 (byts (pgBytes nu f)) * R)) * (rowB2 98 1 [.int .i64 (nu : Int), .slice (some ⟨gb, 0, none⟩) 1024 1024] (.slice a3 1 c3) * R'))
            rw [show doneSet L 12 11 = L 11 from rfl]
            have h9 : Mem wb w (rowB2 98 1 [.int .i64 (nu : Int), .slice (some ⟨gb, 0, none⟩) 1024 1024] (.slice a3 1 c3) * ((if L 11 then emp else row 98 2 (some ⟨go, 0, none⟩) 0 2 []) * (pts gp 71 [.int .i64 (nu : Int), .int .u8 (f.toNat : Int), .int .i64 0] * (pts gb 5 (byts (pgBytes nu f)) * R)) * R')) := Mem.rowB2.2 ⟨a3, c3, rfl, m1⟩
            exact h9.eq (by ac_rfl)
      · intro u w9 hu hm9
        have hm8 : Mem wb w9 (emp * (pts gp 71 [.int .i64 (nu : Int), .int .u8 (f.toNat : Int), .int .i64 0] * (pts gb 5 (byts (pgBytes nu f)) * R)) * (blkB 98 1 [.int .i64 (nu : Int), .slice (some ⟨gb, 0, none⟩) 1024 1024] (u 44) * (emp * (rowB2 98 1 [.int .i64 (nu : Int), .slice (some ⟨gb, 0, none⟩) 1024 1024] (u 5) * emp)))) := hm9
        rw [emp_sep, emp_sep, sep_emp] at hm8
        obtain ⟨a, c, hu5, hm7⟩ := Mem.rowB2.1 (hm8.eq (by ac_rfl : _ = rowB2 98 1 [.int .i64 (nu : Int), .slice (some ⟨gb, 0, none⟩) 1024 1024] (u 5) * (blkB 98 1 [.int .i64 (nu : Int), .slice (some ⟨gb, 0, none⟩) 1024 1024] (u 44) * (pts gp 71 [.int .i64 (nu : Int), .int .u8 (f.toNat : Int), .int .i64 0] * (pts gb 5 (byts (pgBytes nu f)) * R)))))
        have HM7 := hid ((hm7.p1.right.eq (by ac_rfl) : Mem wb w9 (row 98 2 a 1 c [.int .i64 (nu : Int), .slice (some ⟨gb, 0, none⟩) 1024 1024] * (pts gb 5 (byts (pgBytes nu f)) * (pts gp 71 [.int .i64 (nu : Int), .int .u8 (f.toNat : Int), .int .i64 0] * R)))))
        simp only [putAll]
        rw [hu5]
        clear hm9 hm8 hm7 hu hu5 HM IH
        go_simp
        go_wp2_with fail
        go_roundw
        case rel => exact .inr ⟨rfl, a, c, gb, rfl, HM7.out⟩
        case measure => simp [intOf]
    · have HM := hid hm
      clear hm HM0 hgo
      go_wp2_with fail
      go_ret
      exact ⟨a, c, gb, rfl, HM.out⟩
end Go.Proofs.Ytpaebopmppbjbaa
