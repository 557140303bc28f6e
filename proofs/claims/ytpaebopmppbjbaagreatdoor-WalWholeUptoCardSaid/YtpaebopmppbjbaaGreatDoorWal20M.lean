import Derived.Test.YtpaebopmppbjbaaGreatDoorWal16M
/- The sort of one page. -/
set_option linter.unusedVariables false
set_option linter.unusedSimpArgs false
namespace Go.Proofs.YtpaebopmppbjbaaGreatDoor
open Go Go.RowKit Go.Le

set_option maxRecDepth 20000 in
set_option maxHeartbeats 4000000 in
theorem insert1_any (w : World) (s f : Value) :
    Calls Tryz.prog 76 #[s, .int .i64 0, .int .i64 1, f] w fun e w' => e = .returned (.tuple #[]) ∧ w' = w := by
  go_enter Tryz.func76, Tryz.ntmps76
  go_wp2_with fail
  go_loopw [8, 9] (fun iv _ wr => iv = .int .i64 1 ∧ wr = w) (fun _ _ _ => 0)
  case atStart => exact ⟨rfl, rfl⟩
  case round =>
    obtain ⟨rfl, rfl⟩ := hrel
    go_wp2_with fail
    go_end0
    exact ⟨rfl, rfl⟩

set_option maxRecDepth 20000 in
set_option maxHeartbeats 4000000 in
theorem pdq1_any (w : World) (s l f : Value) :
    Calls Tryz.prog 53 #[s, .int .i64 0, .int .i64 1, l, f] w fun e w' => e = .returned (.tuple #[]) ∧ w' = w := by
  go_enter Tryz.func53, Tryz.ntmps53
  go_wp2_with fail
  go_loopw [1, 2] (fun a b wr => a = .int .i64 0 ∧ b = .int .i64 1 ∧ wr = w) (fun _ _ _ => 0)
  case atStart => exact ⟨rfl, rfl, rfl⟩
  case round =>
    obtain ⟨rfl, rfl, rfl⟩ := hrel
    go_wp2_with (go_at_call 76; refine (insert1_any _ _ _).mono ?_; rintro e w' ⟨rfl, rfl⟩; dsimp only)
    refine bodyPost_ret (results_none rfl _ _ _) rfl ?_
    exact ⟨rfl, rfl⟩

set_option maxRecDepth 20000 in
set_option maxHeartbeats 4000000 in
theorem sort1_any (w : World) (b c : Nat) (f : Value) :
    Calls Tryz.prog 32 #[.slice (some ⟨b, 0, none⟩) 1 c, f] w fun e w' => e = .returned (.tuple #[]) ∧ w' = w := by
  go_enter Tryz.func32, Tryz.ntmps32
  go_wp2_with (first | (go_at_call 53; refine (pdq1_any _ _ _ _).mono ?_; rintro e w' ⟨rfl, rfl⟩; dsimp only) | (go_at_call 54; go_in) | (go_at_call 85; go_in))
  go_end0
  exact ⟨rfl, rfl⟩
end Go.Proofs.YtpaebopmppbjbaaGreatDoor

/- The walks of the laws' bytes, of the document's Room and Need. -/
set_option linter.unusedVariables false
set_option linter.unusedSimpArgs false
namespace Go.Le
open Go Go.RowKit
/-- a page's bytes, as the laws make them -/
def pgBytes (n : Nat) (f : UInt8) : List UInt8 := ((List.replicate 1024 f).set 0 (UInt8.ofNat n)).set 511 (UInt8.ofNat (n + 1))
theorem pgBytes_length (n : Nat) (f : UInt8) : (pgBytes n f).length = 1024 := by unfold pgBytes; rw [List.length_set, List.length_set, List.length_replicate]
def filled (k : Nat) (f : UInt8) : List UInt8 := List.replicate k f ++ zrs (1024 - k)
theorem filled_length (k : Nat) (f : UInt8) (h : k ≤ 1024) : (filled k f).length = 1024 := by unfold filled; rw [List.length_append, List.length_replicate, zrs_length]; omega
theorem filled_set (k : Nat) (f : UInt8) (h : k < 1024) : (filled k f).set k f = filled (k + 1) f := by
  unfold filled
  rw [List.set_append_right _ _ (by rw [List.length_replicate]; exact Nat.le_refl _), List.length_replicate, Nat.sub_self]
  obtain ⟨m, hm⟩ : ∃ m, 1024 - k = m + 1 := ⟨1024 - k - 1, by omega⟩
  have e : 1024 - (k + 1) = m := by omega
  rw [hm, e]
  unfold zrs
  rw [List.replicate_succ (n := m), List.set_cons_zero, List.replicate_succ' (n := k), List.append_assoc, List.singleton_append]
end Go.Le
namespace Go.Proofs.YtpaebopmppbjbaaGreatDoor
open Go Go.RowKit Go.Le

set_option maxRecDepth 20000 in
set_option maxHeartbeats 4000000 in
theorem lawBytes_any (wb w : World) (R : HP) (h : Mem wb w R) (nu : Nat) (hnu : nu ≤ 250) (f : UInt8) :
    Calls Tryz.prog 28 #[.agg #[.int .i64 (nu : Int), .int .u8 (f.toNat : Int), .int .i64 0]] w fun e w' => ∃ g, e = .returned (.slice (some ⟨g, 0, none⟩) 1024 1024) ∧ Mem wb w' (pts g 5 (byts (pgBytes nu f)) * R) := by
  have hbx := h.alloc [.int .i64 (nu : Int), .int .u8 (f.toNat : Int), .int .i64 0] 26
  have HMK : ∀ w : World, (Instr.makeSlice 50 (.int .i64 1024) (.int .i64 1024)).run Tryz.prog w = .ok (.slice (some ⟨w.heap.size, 0, none⟩) 1024 1024) (w.alloc (.cells (byts (zrs 1024)).toArray 5)) := by
    intro w
    have h1 := run_make_bytes (P := Tryz.prog) 50 5 Tryz.underlying50 u8info' .i64 .i64 (1024 : Int) (by omega) (by omega) w
    rw [show (1024 : Int).toNat = 1024 from rfl] at h1
    rw [h1, show List.replicate 1024 (Value.int .u8 0) = byts (zrs 1024) by unfold zrs; rw [byts_zeros]]
  have s1 : (w.alloc (.cells #[.int .i64 (nu : Int), .int .u8 (f.toNat : Int), .int .i64 0] 26)).heap.size = w.heap.size + 1 := by simp
  have h2 := hbx.alloc (byts (zrs 1024)) 5
  rw [show (w.alloc (.cells ([.int .i64 (nu : Int), .int .u8 (f.toNat : Int), .int .i64 0] : List Value).toArray 26)).heap.size = w.heap.size + 1 from s1] at h2
  have e0 : filled 0 f = zrs 1024 := by unfold filled; rw [List.replicate_zero, List.nil_append]
  have HM0 := hid (h2.eq (by rw [e0]) : Mem wb _ (pts (w.heap.size + 1) 5 (byts (filled 0 f)) * (pts w.heap.size 26 [.int .i64 (nu : Int), .int .u8 (f.toNat : Int), .int .i64 0] * R)))
  clear h hbx h2 s1 e0
  go_enter Tryz.func28, Tryz.ntmps28
  go_wp2_with fail
  clear HMK
  go_loopw [5] (fun iv wr => ∃ k : Nat, k ≤ 1024 ∧ iv = .int .i64 k ∧ Mem wb wr (pts (w.heap.size + 1) 5 (byts (filled k f)) * (pts w.heap.size 26 [.int .i64 (nu : Int), .int .u8 (f.toNat : Int), .int .i64 0] * R))) (fun iv _ => 1024 - (intOf iv).toNat)
  case atStart => exact ⟨0, by omega, rfl, HM0.out⟩
  case round =>
    obtain ⟨k, hk, rfl, hm⟩ := hrel
    have HM := hid hm
    have q0 := hm.right.cell 0
    have q1 := hm.right.cell 1
    simp only [List.getElem?_cons_zero, List.getElem?_cons_succ] at q0 q1
    clear HM0
    by_cases hlt : k < 1024
    · have kn : (k : Int) < 1024 := by omega
      have kn2 : ¬ (1024 : Int) ≤ (k : Int) := by omega
      have c0 := hm.cell k
      have f0 := hm.frozen k
      rw [List.getElem?_eq_getElem (by rw [byts_length, filled_length k f hk]; exact hlt)] at c0
      have h3 := hm.setCell k (.int .u8 (f.toNat : Int))
      rw [byts_set, filled_set k f hlt] at h3
      have HM3 := hid h3
      obtain ⟨x, hx⟩ : ∃ x, (byts (filled k f))[k]'(by rw [byts_length, filled_length k f hk]; exact hlt) = x := ⟨_, rfl⟩
      rw [hx] at c0
      clear hm h3 HM hx
      go_wp2_with fail
      go_roundw
      case rel => exact ⟨k + 1, by omega, by go_num, HM3.out⟩
      case measure => simp [intOf] <;> omega
    · obtain rfl : k = 1024 := by omega
      have c0 := hm.cell 0
      have f0 := hm.frozen 0
      have f5 := hm.frozen 511
      have c5 := hm.cell 511
      rw [List.getElem?_eq_getElem (by rw [byts_length, filled_length 1024 f hk]; omega)] at c0 c5
      have h3 := (hm.setCell 0 (.int .u8 (((UInt8.ofNat nu).toNat : Nat) : Int))).setCell 511 (.int .u8 (((UInt8.ofNat (nu + 1)).toNat : Nat) : Int))
      have e : ((byts (filled 1024 f)).set 0 (.int .u8 (((UInt8.ofNat nu).toNat : Nat) : Int))).set 511 (.int .u8 (((UInt8.ofNat (nu + 1)).toNat : Nat) : Int)) = byts (pgBytes nu f) := by
        rw [byts_set, byts_set]
        have e2 : filled 1024 f = List.replicate 1024 f := by unfold filled zrs; rw [Nat.sub_self, List.replicate_zero, List.append_nil]
        rw [e2]
        rfl
      rw [e] at h3
      have e5 : ((UInt8.ofNat nu).toNat : Int) = (nu : Int) := by simp; omega
      have e6 : ((UInt8.ofNat (nu + 1)).toNat : Int) = (nu : Int) + 1 := by simp; omega
      rw [e5, e6] at h3
      have HM3 := hid h3
      obtain ⟨x, hx⟩ : ∃ x, (byts (filled 1024 f))[0]'(by rw [byts_length, filled_length 1024 f hk]; omega) = x := ⟨_, rfl⟩
      obtain ⟨y, hy⟩ : ∃ y, (byts (filled 1024 f))[511]'(by rw [byts_length, filled_length 1024 f hk]; omega) = y := ⟨_, rfl⟩
      rw [hx] at c0
      rw [hy] at c5
      have w1 : IntKind.u8.wrap (nu : Int) = (nu : Int) := by simp [IntKind.wrap, IntKind.bits, IntKind.signed]; omega
      have w2 : IntKind.u8.wrap ((nu : Int) + 1) = (nu : Int) + 1 := by simp [IntKind.wrap, IntKind.bits, IntKind.signed]; omega
      have w3 : IntKind.i64.wrap ((nu : Int) + 1) = (nu : Int) + 1 := IntWalk.i64_in _ (by omega)
      clear hm h3 HM hx hy e e5 e6
      go_wp2_with fail
      go_ret
      exact ⟨_, rfl, (HM3.out.p1.right.eq (by ac_rfl) : Mem wb _ (pts (w.heap.size + 1) 5 (byts (pgBytes nu f)) * R))⟩
end Go.Proofs.YtpaebopmppbjbaaGreatDoor

/- The walk of the laws' list, of one page. -/
set_option linter.unusedVariables false
set_option linter.unusedSimpArgs false
namespace Go.Le
open Go Go.RowKit
def rowB2 (u : TypeId) (n : Nat) (xs : List Value) (v : Value) : HP := ex fun x : Option Addr × Nat => pur (v = .slice x.1 n x.2) * row u 2 x.1 n x.2 xs
theorem Mem.rowB2 {wb w : World} {R : HP} {u : TypeId} {n : Nat} {xs : List Value} {v : Value} : Mem wb w (Le.rowB2 u n xs v * R) ↔ ∃ a c, v = .slice a n c ∧ Mem wb w (row u 2 a n c xs * R) := by
  unfold Le.rowB2
  rw [Mem.exl]
  constructor
  · rintro ⟨⟨a, c⟩, h⟩
    rw [sep_assoc, Mem.pur] at h
    exact ⟨a, c, h.1, h.2⟩
  · rintro ⟨a, c, h1, h2⟩
    exact ⟨(a, c), by rw [sep_assoc, Mem.pur]; exact ⟨h1, h2⟩⟩
/-- a slot that a later operation writes, and that waits for this one -/
theorem See.older {l : List Oper} {V : Vals} {a0 : Act} {o : Oper} {a : Act} {d : Tmp} (h : See l V a0 o a d) (j : Nat) (hw : writer l d = some j) (hb : waits .any o j = false) : a.eval (.tmp d) = a0.eval (.tmp d) := by
  unfold See at h; rw [hw] at h; simp only [hb] at h; exact h
end Go.Le
namespace Go.Proofs.YtpaebopmppbjbaaGreatDoor
open Go Go.RowKit Go.Le
theorem mk4 : madeCells (Value.agg #[Value.int IntKind.i64 0, Value.slice none 0 0]).cells 4 = #[.int .i64 0, .slice none 0 0, .int .i64 0, .slice none 0 0] := by kernel_rfl

set_option maxRecDepth 20000 in
set_option maxHeartbeats 4000000 in
theorem list1_any (wb w : World) (R : HP) (gp nu : Nat) (hnu : nu ≤ 250) (f : UInt8) (h : Mem wb w (pts gp 26 [.int .i64 (nu : Int), .int .u8 (f.toNat : Int), .int .i64 0] * R)) :
    Calls Tryz.prog 20 #[.slice (some ⟨gp, 0, none⟩) 1 1, .bool false] w fun e w' => ∃ a c gb, e = .returned (.slice a 1 c) ∧ Mem wb w' (row 52 2 a 1 c [.int .i64 (nu : Int), .slice (some ⟨gb, 0, none⟩) 1024 1024] * (pts gb 5 (byts (pgBytes nu f)) * (pts gp 26 [.int .i64 (nu : Int), .int .u8 (f.toNat : Int), .int .i64 0] * R))) := by
  have HMK : ∀ w : World, (Instr.makeSlice 36 (.int .i64 0) (.int .i64 2)).run Tryz.prog w = .ok (.slice (some ⟨w.heap.size, 0, none⟩) 0 2) (w.alloc (.cells #[.int .i64 0, .slice none 0 0, .int .i64 0, .slice none 0 0] 52)) := by
    intro w
    obtain ⟨i, hi, hz, hs, hb⟩ := info_parts pwInfo
    have h1 := run_make (P := Tryz.prog) w 36 52 i _ Tryz.underlying36 hi hz .i64 .i64 0 2 (by omega) (by omega) (by rw [hb]; omega) (by omega)
    rw [h1, hs, show Int.toNat 2 * 2 = 4 from rfl, mk4]
    rfl
  have hmx := h.alloc [.int .i64 0, .slice none 0 0, .int .i64 0, .slice none 0 0] 52
  have hrow : Mem wb (w.alloc (.cells #[.int .i64 0, .slice none 0 0, .int .i64 0, .slice none 0 0] 52)) (row 52 2 (some ⟨w.heap.size, 0, none⟩) 0 2 [] * (pts gp 26 [.int .i64 (nu : Int), .int .u8 (f.toNat : Int), .int .i64 0] * R)) := Mem.of_row (rest := [.int .i64 0, .slice none 0 0, .int .i64 0, .slice none 0 0]) rfl (by rfl) (by omega) (by omega) (by simp) hmx
  have HM0 := hid hrow
  obtain ⟨pi, hi, hzz, hsz, hby⟩ := info_parts pwInfo
  have IH : Hid (Tryz.prog.info? 52 = some pi ∧ pi.zero = some (.agg #[.int .i64 0, .slice none 0 0]) ∧ pi.size = 2 ∧ pi.bytes = 32) := ⟨hi, hzz, hsz, hby⟩
  clear h hmx hrow hi hzz hsz hby
  generalize hgo : w.heap.size = go at *
  go_enter Tryz.func20, Tryz.ntmps20
  go_wp2_with fail
  clear HMK
  go_loopw [5, 6, 7, 8] (fun ov iv _ _ wr => (iv = .int .i64 0 ∧ ov = .slice (some ⟨go, 0, none⟩) 0 2 ∧ Mem wb wr (row 52 2 (some ⟨go, 0, none⟩) 0 2 [] * (pts gp 26 [.int .i64 (nu : Int), .int .u8 (f.toNat : Int), .int .i64 0] * R))) ∨ (iv = .int .i64 1 ∧ ∃ a c gb, ov = .slice a 1 c ∧ Mem wb wr (row 52 2 a 1 c [.int .i64 (nu : Int), .slice (some ⟨gb, 0, none⟩) 1024 1024] * (pts gb 5 (byts (pgBytes nu f)) * (pts gp 26 [.int .i64 (nu : Int), .int .u8 (f.toNat : Int), .int .i64 0] * R))))) (fun _ iv _ _ _ => 1 - (intOf iv).toNat)
  case atStart =>
    subst hgo
    exact .inl ⟨rfl, rfl, HM0.out⟩
  case round =>
    rcases hrel with ⟨rfl, rfl, hm⟩ | ⟨rfl, a, c, gb, rfl, hm⟩
    · have q0 := hm.right.cell 0
      have q1 := hm.right.cell 1
      have q2 := hm.right.cell 2
      simp only [List.getElem?_cons_zero, List.getElem?_cons_succ] at q0 q1 q2
      have HB := hid (lawBytes_any wb wr _ hm nu hnu f)
      clear hm HM0 hgo
      go_wp2_with fail
      refine HB.out.mono ?_
      rintro e w2 ⟨gb, rfl, hm2⟩
      dsimp only
      have HM := hid (hm2.eq (by ac_rfl : _ = row 52 2 (some ⟨go, 0, none⟩) 0 2 [] * (pts gp 26 [.int .i64 (nu : Int), .int .u8 (f.toNat : Int), .int .i64 0] * (pts gb 5 (byts (pgBytes nu f)) * R))))
      clear hm2 HB q0 q1 q2
      go_wp2_with fail
      refine region_mem (by kernel_rfl) (V := fun jv x => match jv with | 0 => x = (.slice (some ⟨go, 0, none⟩) 0 2 : Value) | 1 => x = (.slice (some ⟨gp, 0, none⟩) 1 1 : Value) | 2 => x = (.int .i64 0 : Value) | 3 => x = (.pointer (some ⟨gp, 0, none⟩) : Value) | 4 => x = (.pointer (some ⟨gp, 0, none⟩) : Value) | 5 => x = (.int .i64 (nu : Int) : Value) | 6 => x = (.slice (some ⟨gb, 0, none⟩) 1024 1024 : Value) | 7 => x = (.int .i64 1024 : Value) | 8 => x = (.slice (some ⟨gb, 0, none⟩) 1024 1024 : Value) | 9 => x = (.agg #[.int .i64 (nu : Int), .slice (some ⟨gb, 0, none⟩) 1024 1024] : Value) | 10 => ∃ g2, x = (.slice (some ⟨g2, 0, none⟩) 1 1 : Value) | 11 => ∃ a c, x = (.slice a 1 c : Value) | 12 => ∃ a c, x = (.slice a 1 c : Value) | _ => True) (A := (fun L => (if L 11 then emp else row 52 2 (some ⟨go, 0, none⟩) 0 2 []) * (pts gp 26 [.int .i64 (nu : Int), .int .u8 (f.toNat : Int), .int .i64 0] * (pts gb 5 (byts (pgBytes nu f)) * R)))) (Bs := [(10, none, blkB 52 1 [.int .i64 (nu : Int), .slice (some ⟨gb, 0, none⟩) 1024 1024]), (11, some 12, rowB2 52 1 [.int .i64 (nu : Int), .slice (some ⟨gb, 0, none⟩) 1024 1024]), (12, none, rowB2 52 1 [.int .i64 (nu : Int), .slice (some ⟨gb, 0, none⟩) 1024 1024])]) HM.out (fun L L' h => by show (if L 11 then _ else _) * _ = (if L' 11 then _ else _) * _; rw [h 11 (by decide)]) (show ([10, 11, 12] : List Nat).Nodup by decide) (by kernel_rfl) (by kernel_rfl) ?_ ?_
      · refine ⟨?_, ?_, ?_, ?_, ?_, ?_, ?_, ?_, ?_, ?_, ?_, ?_, ?_, trivial⟩
        · refine Fine2.run trivial _ rfl (fun _ => rfl) rfl rfl (fun L a w R' hw hm hmk hf => ?_)
          have e5 : a.eval (.tmp 5) = (.slice (some ⟨go, 0, none⟩) 0 2 : Value) := (hf 5 (by decide +kernel)).older 12 (by kernel_rfl) (by kernel_rfl)
          simp only [Act.eval, Array.getD_eq_getD_getElem?] at e5
          simp [execOp, resolve, invoke, builtin, go_sem, e5]
        · refine Fine2.run trivial _ rfl (fun _ => rfl) rfl rfl (fun L a w R' hw hm hmk hf => ?_)
          have e0 : a.eval (.tmp 0) = (.slice (some ⟨gp, 0, none⟩) 1 1 : Value) := (hf 0 (by decide +kernel)).old (by kernel_rfl)
          simp only [Act.eval, Array.getD_eq_getD_getElem?] at e0
          simp [execOp, resolve, invoke, builtin, go_sem, e0]
        · refine Fine2.run trivial _ rfl (fun _ => rfl) rfl rfl (fun L a w R' hw hm hmk hf => ?_)
          have e6 : a.eval (.tmp 6) = (.int .i64 0 : Value) := (hf 6 (by decide +kernel)).old (by kernel_rfl)
          simp only [Act.eval, Array.getD_eq_getD_getElem?] at e6
          simp [execOp, resolve, invoke, builtin, go_sem, e6]
        · refine Fine2.run trivial _ rfl (fun _ => rfl) rfl rfl (fun L a w R' hw hm hmk hf => ?_)
          have e35 : a.eval (.tmp 35) = (.slice (some ⟨gp, 0, none⟩) 1 1 : Value) := (hf 35 (by decide +kernel)).new 1 (by kernel_rfl) (by kernel_rfl)
          have e36 : a.eval (.tmp 36) = (.int .i64 0 : Value) := (hf 36 (by decide +kernel)).new 2 (by kernel_rfl) (by kernel_rfl)
          simp only [Act.eval, Array.getD_eq_getD_getElem?] at e35 e36
          simp [execOp, resolve, invoke, builtin, go_sem, e35, e36]
        · refine Fine2.run trivial _ rfl (fun _ => rfl) rfl rfl (fun L a w R' hw hm hmk hf => ?_)
          have e37 : a.eval (.tmp 37) = (.pointer (some ⟨gp, 0, none⟩) : Value) := (hf 37 (by decide +kernel)).new 3 (by kernel_rfl) (by kernel_rfl)
          simp only [Act.eval, Array.getD_eq_getD_getElem?] at e37
          simp [execOp, resolve, invoke, builtin, go_sem, e37]
        · refine Fine2.run trivial _ rfl (fun _ => rfl) rfl rfl (fun L a w R' hw hm hmk hf => ?_)
          have e38 : a.eval (.tmp 38) = (.pointer (some ⟨gp, 0, none⟩) : Value) := (hf 38 (by decide +kernel)).new 4 (by kernel_rfl) (by kernel_rfl)
          simp only [Act.eval, Array.getD_eq_getD_getElem?] at e38
          have hbx := hm.left.right
          have q0 := hbx.cell 0
          simp only [List.getElem?_cons_zero] at q0
          simp [execOp, resolve, invoke, builtin, go_sem, e38, q0]
        · refine Fine2.run trivial _ rfl (fun _ => rfl) rfl rfl (fun L a w R' hw hm hmk hf => ?_)
          have e7 : a.eval (.tmp 7) = (.slice (some ⟨gb, 0, none⟩) 1024 1024 : Value) := (hf 7 (by decide +kernel)).old (by kernel_rfl)
          simp only [Act.eval, Array.getD_eq_getD_getElem?] at e7
          simp [execOp, resolve, invoke, builtin, go_sem, e7]
        · refine Fine2.run trivial _ rfl (fun _ => rfl) rfl rfl (fun L a w R' hw hm hmk hf => ?_)
          have e8 : a.eval (.tmp 8) = (.int .i64 1024 : Value) := (hf 8 (by decide +kernel)).old (by kernel_rfl)
          simp only [Act.eval, Array.getD_eq_getD_getElem?] at e8
          simp [execOp, resolve, invoke, builtin, go_sem, e8]
        · refine Fine2.run trivial _ rfl (fun _ => rfl) rfl rfl (fun L a w R' hw hm hmk hf => ?_)
          have e40 : a.eval (.tmp 40) = (.slice (some ⟨gb, 0, none⟩) 1024 1024 : Value) := (hf 40 (by decide +kernel)).new 6 (by kernel_rfl) (by kernel_rfl)
          have e41 : a.eval (.tmp 41) = (.int .i64 1024 : Value) := (hf 41 (by decide +kernel)).new 7 (by kernel_rfl) (by kernel_rfl)
          simp only [Act.eval, Array.getD_eq_getD_getElem?] at e40 e41
          simp [execOp, resolve, invoke, builtin, go_sem, e40, e41]
        · refine Fine2.run trivial _ rfl (fun _ => rfl) rfl rfl (fun L a w R' hw hm hmk hf => ?_)
          have e39 : a.eval (.tmp 39) = (.int .i64 (nu : Int) : Value) := (hf 39 (by decide +kernel)).new 5 (by kernel_rfl) (by kernel_rfl)
          have e42 : a.eval (.tmp 42) = (.slice (some ⟨gb, 0, none⟩) 1024 1024 : Value) := (hf 42 (by decide +kernel)).new 8 (by kernel_rfl) (by kernel_rfl)
          simp only [Act.eval, Array.getD_eq_getD_getElem?] at e39 e42
          simp [execOp, resolve, invoke, builtin, go_sem, e39, e42]
        · refine Fine2.open trivial (fun L a w R' hL hw hm hmk hf => ?_)
          rw [eaten_none rfl, emp_sep] at hm
          have e43 : a.eval (.tmp 43) = (.agg #[.int .i64 (nu : Int), .slice (some ⟨gb, 0, none⟩) 1024 1024] : Value) := (hf 43 (by decide +kernel)).new 9 (by kernel_rfl) (by kernel_rfl)
          simp only [Act.eval, Array.getD_eq_getD_getElem?] at e43
          refine ⟨(.slice (some ⟨w.heap.size, 0, none⟩) 1 1), w.alloc (.cells #[.int .i64 (nu : Int), .slice (some ⟨gb, 0, none⟩) 1024 1024] 52), ?_, ⟨_, rfl⟩, ?_⟩
          · simp [execOp, resolve, invoke, builtin, go_sem, e43]
          · exact (Mem.blkB.2 ⟨_, rfl, hm.alloc [.int .i64 (nu : Int), .slice (some ⟨gb, 0, none⟩) 1024 1024] 52⟩ : Mem wb _ (blkB 52 1 [.int .i64 (nu : Int), .slice (some ⟨gb, 0, none⟩) 1024 1024] _ * _)).p1
        · refine Fine2.open trivial (fun L a w R' hL hw hm hmk hf => ?_)
          rw [eaten_none rfl, emp_sep] at hm
          obtain ⟨R3, hR3⟩ := hmk [true, false, false] (by kernel_rfl)
          have hm : Mem wb w ((if L 11 then emp else row 52 2 (some ⟨go, 0, none⟩) 0 2 []) * (pts gp 26 [.int .i64 (nu : Int), .int .u8 (f.toNat : Int), .int .i64 0] * (pts gb 5 (byts (pgBytes nu f)) * R)) * R') := hm
          rw [hL] at hm
          have hm : Mem wb w (row 52 2 (some ⟨go, 0, none⟩) 0 2 [] * (pts gp 26 [.int .i64 (nu : Int), .int .u8 (f.toNat : Int), .int .i64 0] * (pts gb 5 (byts (pgBytes nu f)) * R)) * R') := hm
          have hm2 := hm
          rw [hR3] at hm2
          obtain ⟨g2, y, m2⟩ := Mem.blkB.1 (show Mem wb w (_ * (_ * R3)) from hm2).p1
          have e44 : a.eval (.tmp 44) = .slice (some ⟨g2, 0, none⟩) 1 1 := y
          have e34 : a.eval (.tmp 34) = (.slice (some ⟨go, 0, none⟩) 0 2 : Value) := (hf 34 (by decide +kernel)).new 0 (by kernel_rfl) (by kernel_rfl)
          have h1 := hm.eq (sep_assoc _ _ _)
          obtain ⟨a3, c3, w', hr, hd, -, -⟩ := h1.append (P := Tryz.prog) 36 36 Tryz.underlying36 IH.out.1 IH.out.2.1 IH.out.2.2.1 IH.out.2.2.2 rfl (by omega) (by rfl : ([.int .i64 (nu : Int), .slice (some ⟨gb, 0, none⟩) 1024 1024] : List Value).length = 1 * 2) (news_built m2.blk.1) (fun h => by cases h) (by intro u hu; simp at hu; rcases hu with rfl | rfl <;> rfl) (by omega) (by omega)
          refine ⟨.slice a3 1 c3, w', ?_, ⟨a3, c3, rfl⟩, ?_⟩
          · have hr : (Builtin.append_ #[36, 36] 36 #[.slice (some ⟨go, 0, none⟩) 0 2, .slice (some ⟨g2, 0, none⟩) 1 1]).run Tryz.prog w = .ok (.slice a3 1 c3) w' := hr
            simp [execOp, resolve, invoke, builtin, e34, e44, hr, Result.andThen]
          · show Mem wb w' ((if doneSet L 11 11 then emp else row 52 2 (some ⟨go, 0, none⟩) 0 2 []) * (pts gp 26 [.int .i64 (nu : Int), .int .u8 (f.toNat : Int), .int .i64 0] * (pts gb 5 (byts (pgBytes nu f)) * R)) * (rowB2 52 1 [.int .i64 (nu : Int), .slice (some ⟨gb, 0, none⟩) 1024 1024] (.slice a3 1 c3) * R'))
            rw [show doneSet L 11 11 = true from rfl]
            have h9 : Mem wb w' (rowB2 52 1 [.int .i64 (nu : Int), .slice (some ⟨gb, 0, none⟩) 1024 1024] (.slice a3 1 c3) * ((pts gp 26 [.int .i64 (nu : Int), .int .u8 (f.toNat : Int), .int .i64 0] * (pts gb 5 (byts (pgBytes nu f)) * R)) * R')) := Mem.rowB2.2 ⟨a3, c3, rfl, hd.duo_row⟩
            exact h9.eq (by show _ = emp * (pts gp 26 [.int .i64 (nu : Int), .int .u8 (f.toNat : Int), .int .i64 0] * (pts gb 5 (byts (pgBytes nu f)) * R)) * (rowB2 52 1 [.int .i64 (nu : Int), .slice (some ⟨gb, 0, none⟩) 1024 1024] (.slice a3 1 c3) * R'); rw [emp_sep]; ac_rfl)
        · refine Fine2.open trivial (fun L a w R' hL hw hm hmk hf => ?_)
          have hm' : Mem wb w ((if L 11 then emp else row 52 2 (some ⟨go, 0, none⟩) 0 2 []) * (pts gp 26 [.int .i64 (nu : Int), .int .u8 (f.toNat : Int), .int .i64 0] * (pts gb 5 (byts (pgBytes nu f)) * R)) * ((emp * (rowB2 52 1 [.int .i64 (nu : Int), .slice (some ⟨gb, 0, none⟩) 1024 1024] (a.eval (.tmp 45)) * (emp * emp))) * R')) := hm
          rw [emp_sep, sep_emp, sep_emp] at hm'
          obtain ⟨a3, c3, e45, m1⟩ := Mem.rowB2.1 hm'.p1
          refine ⟨.slice a3 1 c3, w, ?_, ⟨a3, c3, rfl⟩, ?_⟩
          · have e45 : a.eval (.tmp 45) = .slice a3 1 c3 := e45
            simp only [Act.eval, Array.getD_eq_getD_getElem?] at e45
            simp [execOp, resolve, invoke, go_sem, e45]
          · show Mem wb w ((if doneSet L 12 11 then emp else row 52 2 (some ⟨go, 0, none⟩) 0 2 []) * (pts gp 26 [.int .i64 (nu : Int), .int .u8 (f.toNat : Int), .int .i64 0] * (pts gb 5 (byts (pgBytes nu f)) * R)) * (rowB2 52 1 [.int .i64 (nu : Int), .slice (some ⟨gb, 0, none⟩) 1024 1024] (.slice a3 1 c3) * R'))
            rw [show doneSet L 12 11 = L 11 from rfl]
            have h9 : Mem wb w (rowB2 52 1 [.int .i64 (nu : Int), .slice (some ⟨gb, 0, none⟩) 1024 1024] (.slice a3 1 c3) * ((if L 11 then emp else row 52 2 (some ⟨go, 0, none⟩) 0 2 []) * (pts gp 26 [.int .i64 (nu : Int), .int .u8 (f.toNat : Int), .int .i64 0] * (pts gb 5 (byts (pgBytes nu f)) * R)) * R')) := Mem.rowB2.2 ⟨a3, c3, rfl, m1⟩
            exact h9.eq (by ac_rfl)
      · intro u w9 hu hm9
        have hm8 : Mem wb w9 (emp * (pts gp 26 [.int .i64 (nu : Int), .int .u8 (f.toNat : Int), .int .i64 0] * (pts gb 5 (byts (pgBytes nu f)) * R)) * (blkB 52 1 [.int .i64 (nu : Int), .slice (some ⟨gb, 0, none⟩) 1024 1024] (u 44) * (emp * (rowB2 52 1 [.int .i64 (nu : Int), .slice (some ⟨gb, 0, none⟩) 1024 1024] (u 5) * emp)))) := hm9
        rw [emp_sep, emp_sep, sep_emp] at hm8
        obtain ⟨a, c, hu5, hm7⟩ := Mem.rowB2.1 (hm8.eq (by ac_rfl : _ = rowB2 52 1 [.int .i64 (nu : Int), .slice (some ⟨gb, 0, none⟩) 1024 1024] (u 5) * (blkB 52 1 [.int .i64 (nu : Int), .slice (some ⟨gb, 0, none⟩) 1024 1024] (u 44) * (pts gp 26 [.int .i64 (nu : Int), .int .u8 (f.toNat : Int), .int .i64 0] * (pts gb 5 (byts (pgBytes nu f)) * R)))))
        have HM7 := hid ((hm7.p1.right.eq (by ac_rfl) : Mem wb w9 (row 52 2 a 1 c [.int .i64 (nu : Int), .slice (some ⟨gb, 0, none⟩) 1024 1024] * (pts gb 5 (byts (pgBytes nu f)) * (pts gp 26 [.int .i64 (nu : Int), .int .u8 (f.toNat : Int), .int .i64 0] * R)))))
        simp only [putAll]
        rw [hu5]
        clear hm9 hm8 hm7 hu hu5 HM IH
        go_simp
        go_wp2_with fail
        go_roundw
        case rel => exact .inr ⟨rfl, a, c, gb, rfl, HM7.out⟩
        case measure => simp [intOf]
    · have HM := hid hm
      clear hm HM0 hgo
      go_wp2_with fail
      go_ret
      exact ⟨a, c, gb, rfl, HM.out⟩
end Go.Proofs.YtpaebopmppbjbaaGreatDoor

/- What fixed() asks of the disk, reckoned. -/
set_option linter.unusedVariables false
set_option linter.unusedSimpArgs false
namespace Go.Le
open Go Go.RowKit
def fixChk : Bool := match ioOpen (Dev.fresh (zrs (9 * 512))) with
  | (.ok x, D1) => x.1 == 2 && x.2 == false && D1.pend.length == 0 && (match ioCommit 2 [(1, pgBytes 1 7)] D1 with
    | (.ok _, D2) => D2.pend.length == 0 && D2.calls == 14 && D2.img.length == 4608 && D2.img.getD 3589 0 == 7 && (match ioPage 2 1 D2 with
      | (.ok pg, _) => pg.length == 1024 && pg.getD 5 0 == 7
      | _ => false)
    | _ => false)
  | _ => false
theorem fixChk_true : fixChk = true := by decide +kernel
theorem fixed_io : ∃ D1 D2 pg D3, ioOpen (Dev.fresh (zrs (9 * 512))) = (.ok (2, false), D1) ∧ D1.pend.length = 0 ∧ ioCommit 2 [(1, pgBytes 1 7)] D1 = (.ok (), D2) ∧ D2.pend.length = 0 ∧ D2.calls = 14 ∧ D2.img.length = 4608 ∧ D2.img.getD 3589 0 = 7 ∧ ioPage 2 1 D2 = (.ok pg, D3) ∧ pg.length = 1024 ∧ pg.getD 5 0 = 7 := by
  have h := fixChk_true
  unfold fixChk at h
  split at h
  · rename_i x D1 h1
    simp only [Bool.and_eq_true, beq_iff_eq] at h
    obtain ⟨⟨⟨h2, h3⟩, h4⟩, h5⟩ := h
    split at h5
    · rename_i u D2 h6
      simp only [Bool.and_eq_true, beq_iff_eq] at h5
      obtain ⟨⟨⟨⟨h7, h8⟩, h9⟩, h10⟩, h11⟩ := h5
      split at h11
      · rename_i pg D3 h12
        simp only [Bool.and_eq_true, beq_iff_eq] at h11
        obtain ⟨a, b⟩ := x
        simp only at h2 h3
        subst h2; subst h3
        exact ⟨D1, D2, pg, D3, h1, h4, h6, h7, h8, h9, h10, h12, h11.1, h11.2⟩
      · cases h11
    · cases h5
  · cases h
end Go.Le

/- The walk of fixed(). -/
set_option linter.unusedVariables false
set_option linter.unusedSimpArgs false
namespace Go.Proofs.YtpaebopmppbjbaaGreatDoor
open Go Go.RowKit Go.Le

def pz1 (gb : Nat) : List Pz := [((1, pgBytes 1 7), (some ⟨gb, 0, none⟩, 1024))]
theorem pz1_cells (gb : Nat) : pzCells (pz1 gb) = [.int .i64 1, .slice (some ⟨gb, 0, none⟩) 1024 1024] := by
  unfold pzCells pz1
  simp only [List.flatMap_cons, List.flatMap_nil, List.append_nil]
  rw [pgBytes_length]
  rfl

set_option maxRecDepth 20000 in
set_option maxHeartbeats 4000000 in
theorem fixed_any (wb w : World) (R : HP) (h : Mem wb w R) :
    Calls Tryz.prog 6 #[] w fun e w' => e = .returned (.bool true) ∧ Mem wb w' R := by
  obtain ⟨D1, D2, pg, D3, f1, f2, f3, f4, f5, f6, f7, f8, f9, f10⟩ := fixed_io
  have F1 := hid f1
  have F2 := hid f2
  have F3 := hid f3
  have F4 := hid f4
  have F5 := hid f5
  have F6 := hid f6
  have F7 := hid f7
  have F8 := hid f8
  have F9 := hid f9
  have F10 := hid f10
  have HNW := hid (New_any wb w R h 9 (by omega) (by omega))
  clear h f1 f2 f3 f4 f5 f6 f7 f8 f9 f10
  go_enter Tryz.func6, Tryz.ntmps6
  go_wp2_with fail
  refine HNW.out.mono ?_
  rintro e w1 ⟨g, rfl, hm1⟩
  dsimp only
  have hpl : (Dev.fresh (zrs (9 * 512))).pend.length ≤ 700000000 := by show ([] : List (Nat × List UInt8)).length ≤ _; simp
  have HOP := Open_any wb w1 R g _ hm1 hpl
  rw [F1.out] at HOP
  have HOP := hid HOP
  clear HNW hm1 hpl
  go_wp2_with fail
  refine HOP.out.mono ?_
  rintro e w2 ⟨gl, rfl, hm2⟩
  dsimp only
  have HPG := hid (Pages_any wb w2 _ g 2 gl .nilIface hm2)
  have hms := hm2.alloc [.int .i64 ((1 : Nat) : Int), .int .u8 ((7 : UInt8).toNat : Int), .int .i64 0] 26
  have HL := list1_any wb _ _ w2.heap.size 1 (by omega) 7 hms
  rw [show ((1 : Nat) : Int) = 1 from rfl, show ((7 : UInt8).toNat : Int) = 7 from rfl] at HL
  have HL := hid HL
  clear HOP hm2 hms
  go_wp2_with (go_at_call 19; refine HPG.out.mono ?_; rintro e w' ⟨rfl, rfl⟩; dsimp only)
  refine HL.out.mono ?_
  rintro e w3 ⟨a, c, gb, rfl, hm3⟩
  dsimp only
  obtain ⟨b2, rest, rfl, r1, r2, r3, r4, -⟩ := hm3.row_at (by omega)
  rw [← pz1_cells] at hm3
  have HCO := Commit_any wb w3 (row 52 2 (some ⟨b2, 0, none⟩) 1 c (pzCells (pz1 gb)) * (pts gb 5 (byts (pgBytes 1 7)) * (pts w2.heap.size 26 [.int .i64 1, .int .u8 7, .int .i64 0] * R))) g gl 2 1 b2 c (pz1 gb) (pz1 gb) D1
    (hm3.eq (by ac_rfl)) (by have := F2.out; omega) (by omega) rfl (by omega) (by omega) (by unfold pz1; simp only [List.map_cons, List.map_nil]; rw [pgBytes_length]; rfl)
    (fun z hz => by
      simp only [pz1, List.mem_cons, List.not_mem_nil, or_false] at hz
      subst hz
      exact ⟨by show 1 < 2; omega, pgBytes_length 1 7⟩)
    (fun w' h' => ⟨h'.pgs, fun z hz => by
      simp only [pz1, List.mem_cons, List.not_mem_nil, or_false] at hz
      subst hz
      exact h'.right.blk.1.sl_all 1024 (by rw [byts_length]; exact pgBytes_length 1 7) (by omega)⟩) rfl (fun z hz => hz)
    (fun w R' b2 c2 hm => (sort1_any w b2 c2 _).mono fun e w' ⟨he, hw⟩ => ⟨he, by rw [hw]; exact hm⟩)
  rw [show (pz1 gb).map (·.1) = [(1, pgBytes 1 7)] from rfl, F3.out] at HCO
  have HCO := hid HCO
  clear HL hm3 r1 r4
  go_wp2_with fail
  refine HCO.out.mono ?_
  rintro e w4 ⟨rfl, hm4⟩
  dsimp only
  have HRD := hid (Read_ok wb w4 _ g gl 2 1 D2 hm4 (by have := F4.out; omega) (by omega) (by omega) pg D3 F8.out)
  clear HCO hm4
  go_wp2_with fail
  refine HRD.out.mono ?_
  rintro e w5 ⟨ap, rfl, hD, hpl, hm5⟩
  dsimp only
  obtain rfl : D2 = D3 := hD.symm
  rw [F9.out] at hm5
  have hsl := hm5.row_sl
  obtain ⟨bp, op, rfl⟩ := hsl.addr (by omega)
  have hp5 := hsl.at 5 (by omega)
  have e5 : (byts pg)[5]'(by rw [byts_length, F9.out]; omega) = .int .u8 7 := by
    have h1 := F10.out
    have h2 : 5 < pg.length := by rw [F9.out]; omega
    simp only [List.getD, List.getElem?_eq_getElem h2, Option.getD_some] at h1
    simp [byts, byt, h1]
  rw [e5] at hp5
  obtain ⟨hok, ka, kc, hd5⟩ := Mem.devAt.1 hm5.p2
  have HIM := hid (Image_any wb w5 _ g D2 ka _ kc hd5 hok)
  have hl9 := F9.out
  rw [hl9]
  clear HRD hm5 hd5 hok hsl e5 hl9 hpl
  go_wp2_with fail
  refine HIM.out.mono ?_
  rintro e w6 ⟨ai, ci, rfl, hm6⟩
  dsimp only
  have hil := F6.out
  rw [hil] at hm6
  have hsi := hm6.row_sl
  obtain ⟨bi, oi, rfl⟩ := hsi.addr (by omega)
  have hpi := hsi.at 3589 (by omega)
  have e6 : (byts D2.img)[3589]'(by rw [byts_length, hil]; omega) = .int .u8 7 := by
    have h1 := F7.out
    have h2 : 3589 < D2.img.length := by rw [hil]; omega
    simp only [List.getD, List.getElem?_eq_getElem h2, Option.getD_some] at h1
    simp [byts, byt, h1]
  rw [e6] at hpi
  have hd6 := hm6.p1
  have HCA := hid (Calls_any wb w6 _ g D2 ka _ kc hd6)
  have hcc := F5.out
  rw [hcc] at HCA
  have HMF := hid (hm6.right.right)
  rw [hil]
  clear HIM hm6 hsi hd6 e6 hil hcc
  go_wp2_with fail
  refine HCA.out.mono ?_
  rintro e w7 ⟨rfl, rfl⟩
  dsimp only
  go_wp2_with fail
  go_ret
  exact ⟨rfl, HMF.out.right.right.right.right.right.right⟩
end Go.Proofs.YtpaebopmppbjbaaGreatDoor

/- The walks of told, of the document's Room and Need. -/
set_option linter.unusedVariables false
set_option linter.unusedSimpArgs false
namespace Go.Proofs.YtpaebopmppbjbaaGreatDoor
open Go Go.RowKit Go.Le

end Go.Proofs.YtpaebopmppbjbaaGreatDoor
