/- The walk of wal's asked. -/
import Derived.Test.YtpaebopmppbjbaaWal16
set_option linter.unusedVariables false
set_option linter.unusedSimpArgs false
namespace Go.Le
open Go Go.RowKit
/-- the first page that may not be written, and why: of numbers and lengths -/
def askedFrom (p : Nat) : Nat → List Nat → List (Int × Nat) → Nat × Int
  | _, _, [] => (0, 0)
  | k, s, x :: r => if x.1 < 0 ∨ (p : Int) ≤ x.1 then (k, 4) else if x.2 ≠ 1024 then (k, 82) else if x.1.toNat ∈ s then (k, 91) else askedFrom p (k + 1) (x.1.toNat :: s) r
def sawCells (p : Nat) (s : List Nat) : List Value := (List.range p).map fun i => Value.bool (decide (i ∈ s))
theorem sawCells_length (p : Nat) (s : List Nat) : (sawCells p s).length = p := by simp [sawCells]
theorem sawCells_at (p : Nat) (s : List Nat) (i : Nat) (h : i < p) : (sawCells p s)[i]? = some (.bool (decide (i ∈ s))) := by
  simp [sawCells, h]
theorem sawCells_set (p : Nat) (s : List Nat) (i : Nat) : (sawCells p s).set i (.bool true) = sawCells p (i :: s) := by
  apply List.ext_getElem
  · simp [sawCells]
  · intro k h1 h2
    have hk : k < p := by simpa [sawCells] using h2
    rw [List.getElem_set]
    by_cases h : i = k
    · subst h; simp [sawCells]
    · have : k ≠ i := fun e => h e.symm
      simp [sawCells, h, this]
end Go.Le
namespace Go.Proofs.Ytpaebopmppbjbaa
open Go Go.RowKit Go.Le
theorem boolinfo : (Try.prog.info? 4).map (fun i => (i.zero, i.size, i.bytes)) = some (some (.bool false), 1, 1) := by kernel_rfl

set_option maxRecDepth 20000 in
set_option maxHeartbeats 8000000 in
theorem wasked_any (wb w0 : World) (R : HP) (g gl p n b c : Nat) (a : Option Addr) (er : Value) (zs : List (Int × Option Addr × Nat × Nat)) (h : Mem wb w0 (pts gl 60 [.pointer (some ⟨g, 0, none⟩), .int .i64 (p : Int), er] * R)) (hp : p ≤ 250) (hn : zs.length = n) (hn2 : n ≤ 1000) (ha : 0 < n → a = some ⟨b, 0, none⟩)
    (hs : ∀ w', Mem wb w' R → ∀ k z, zs[k]? = some z → w'.cell? ⟨b, k * 2, none⟩ = some (.int .i64 z.1) ∧ w'.cell? ⟨b, k * 2 + 1, none⟩ = some (.slice z.2.1 z.2.2.1 z.2.2.2)) :
    Calls Try.prog 49 #[.pointer (some ⟨gl, 0, none⟩), .slice a n c] w0 fun e w' => e = .returned (.tuple #[.int .i64 ((askedFrom p 0 [] (zs.map fun z => (z.1, z.2.2.1))).1 : Int), .int .i64 (askedFrom p 0 [] (zs.map fun z => (z.1, z.2.2.1))).2]) ∧ Mem wb w' (pts gl 60 [.pointer (some ⟨g, 0, none⟩), .int .i64 (p : Int), er] * R) := by
  have HS : Hid (∀ w', Mem wb w' R → ∀ k z, zs[k]? = some z → w'.cell? ⟨b, k * 2, none⟩ = some (.int .i64 z.1) ∧ w'.cell? ⟨b, k * 2 + 1, none⟩ = some (.slice z.2.1 z.2.2.1 z.2.2.2)) := hs
  have HAD : Hid (0 < n → a = some ⟨b, 0, none⟩) := hid ha
  have hmk : ∀ w : World, (Instr.makeSlice 110 (.int .i64 (p : Int)) (.int .i64 (p : Int))).run Try.prog w = .ok (.slice (some ⟨w.heap.size, 0, none⟩) p p) (w.alloc (.cells (sawCells p []).toArray 4)) := by
    intro w
    obtain ⟨i, hi1, hz, hs', hb⟩ := info_parts boolinfo
    have h1 := run_make (P := Try.prog) w 110 4 i (.bool false) Try.underlying110 hi1 hz .i64 .i64 p p (by omega) (Int.le_refl _) (by rw [hb]; omega) (by omega)
    rw [h1, hs', Int.toNat_natCast, Nat.mul_one]
    have e1 : madeCells (Value.bool false).cells p = (sawCells p []).toArray := by
      unfold madeCells sawCells
      apply Array.ext'
      apply List.ext_getElem
      · simp
      · intro k h1 h2
        simp [Value.cells, Nat.mod_one]
    rw [e1]
  have q0 := h.cell 1
  simp only [List.getElem?_cons_zero, List.getElem?_cons_succ] at q0
  have HM0 := hid ((h.alloc (sawCells p []) 4) : Mem wb _ (pts w0.heap.size 4 (sawCells p []) * (pts gl 60 [.pointer (some ⟨g, 0, none⟩), .int .i64 (p : Int), er] * R)))
  have HLN : Hid ((zs.map fun z => (z.1, z.2.2.1)).length = n) := by show _ = _; rw [List.length_map, hn]
  have HIO0 : Hid (askedFrom p 0 [] (zs.map fun z => (z.1, z.2.2.1)) = askedFrom p 0 [] ((zs.map fun z => (z.1, z.2.2.1)).drop 0)) := by show _ = _; rw [List.drop_zero]
  clear h hs ha
  go_enter Try.func49, Try.ntmps49
  go_wp2_with fail
  clear hmk q0
  go_loopw [7, 8, 17] (fun _ _ kv wr => ∃ (k : Nat) (s : List Nat), k ≤ n ∧ kv = .int .i64 k ∧ askedFrom p 0 [] (zs.map fun z => (z.1, z.2.2.1)) = askedFrom p k s ((zs.map fun z => (z.1, z.2.2.1)).drop k) ∧ Mem wb wr (pts w0.heap.size 4 (sawCells p s) * (pts gl 60 [.pointer (some ⟨g, 0, none⟩), .int .i64 (p : Int), er] * R))) (fun _ _ kv _ => n - (intOf kv).toNat)
  case atStart => exact ⟨0, [], by omega, rfl, HIO0.out, HM0.out⟩
  case round =>
    obtain ⟨k, s, hk, rfl, hio, hm⟩ := hrel
    have HM1 := hid hm
    have HIO := hid hio
    clear HM0 HIO0 hm hio
    by_cases hlt : k < n
    · obtain rfl := HAD.out (by omega)
      obtain ⟨z, hz⟩ : ∃ z, zs[k]? = some z := ⟨zs[k]'(by omega), List.getElem?_eq_getElem _⟩
      obtain ⟨hp0, hp1⟩ := HS.out wr HM1.out.right.right k z hz
      have HDC : Hid ((zs.map fun z => (z.1, z.2.2.1)).drop k = (z.1, z.2.2.1) :: (zs.map fun z => (z.1, z.2.2.1)).drop (k + 1)) := by
        show _ = _
        obtain ⟨hlt2, hzk⟩ := List.getElem?_eq_some_iff.1 hz
        rw [drop_cons _ k (by rw [List.length_map]; exact hlt2), List.getElem_map, hzk]
      clear hz
      obtain ⟨nn, ba, l, bc⟩ := z
      simp only at hp0 hp1 HDC
      have kn : (k : Int) < (n : Int) := by omega
      have HM := hid ((HM1.out.alloc [.int .i64 nn, .slice ba l bc] 98) : Mem wb _ (pts wr.heap.size 98 [.int .i64 nn, .slice ba l bc] * (pts w0.heap.size 4 (sawCells p s) * (pts gl 60 [.pointer (some ⟨g, 0, none⟩), .int .i64 (p : Int), er] * R))))
      have HIO2 : Hid (askedFrom p 0 [] (zs.map fun z => (z.1, z.2.2.1)) = askedFrom p k s ((nn, l) :: (zs.map fun z => (z.1, z.2.2.1)).drop (k + 1))) := by show _ = _; rw [HIO.out, HDC.out]
      clear HIO HDC HM1
      by_cases hbad : nn < 0 ∨ (p : Int) ≤ nn
      · have HAS : Hid (askedFrom p 0 [] (zs.map fun z => (z.1, z.2.2.1)) = (k, 4)) := by
          show _ = _
          rw [HIO2.out]
          unfold askedFrom
          rw [if_pos hbad]
        clear HIO2
        by_cases hneg : nn < 0
        · clear hbad
          go_wp2_with fail
          refine region_mem (by kernel_rfl) (V := fun jv x => match jv with | 0 => x = (.pointer (some ⟨wr.heap.size, 0, none⟩) : Value) | 1 => x = (.int .i64 nn : Value) | 2 => x = (.bool true : Value) | 3 => x = (.bool true : Value) | 4 => x = undef | 5 => x = undef | 6 => x = undef | 7 => x = undef | 8 => x = undef | 9 => x = undef | 10 => x = undef | 11 => x = undef | 12 => x = (.bool true : Value) | 13 => x = (.bool true : Value) | _ => True) (A := (fun _ => pts wr.heap.size 98 [.int .i64 nn, .slice ba l bc] * (pts w0.heap.size 4 (sawCells p s) * (pts gl 60 [.pointer (some ⟨g, 0, none⟩), .int .i64 (p : Int), er] * R)))) (Bs := []) HM.out (fun _ _ _ => rfl) (show ([] : List Nat).Nodup by decide) (by kernel_rfl) (by kernel_rfl) ?_ ?_
          · refine ⟨?_, ?_, ?_, ?_, ?_, ?_, ?_, ?_, ?_, ?_, ?_, ?_, ?_, ?_, trivial⟩
            · refine Fine2.run trivial _ rfl (fun _ => rfl) rfl rfl (fun L a w R' hw hm hmk hf => ?_)
              have e8 : a.eval (.tmp 8) = (.pointer (some ⟨wr.heap.size, 0, none⟩) : Value) := (hf 8 (by decide +kernel)).old (by kernel_rfl)
              simp only [Act.eval, Array.getD_eq_getD_getElem?] at e8
              simp [execOp, resolve, invoke, builtin, go_sem, e8]
            · refine Fine2.run trivial _ rfl (fun _ => rfl) rfl rfl (fun L a w R' hw hm hmk hf => ?_)
              have e23 : a.eval (.tmp 23) = (.pointer (some ⟨wr.heap.size, 0, none⟩) : Value) := (hf 23 (by decide +kernel)).new 0 (by kernel_rfl) (by kernel_rfl)
              simp only [Act.eval, Array.getD_eq_getD_getElem?] at e23
              have hbx := hm.left
              have q0 := hbx.cell 0
              simp only [List.getElem?_cons_zero] at q0
              simp [execOp, resolve, invoke, builtin, go_sem, e23, q0]
            · refine Fine2.run trivial _ rfl (fun _ => rfl) rfl rfl (fun L a w R' hw hm hmk hf => ?_)
              have e24 : a.eval (.tmp 24) = (.int .i64 nn : Value) := (hf 24 (by decide +kernel)).new 1 (by kernel_rfl) (by kernel_rfl)
              simp only [Act.eval, Array.getD_eq_getD_getElem?] at e24
              simp [execOp, resolve, invoke, builtin, go_sem, e24, hneg]
            · refine Fine2.run trivial _ rfl (fun _ => rfl) rfl rfl (fun L a w R' hw hm hmk hf => ?_)
              have e25 : a.eval (.tmp 25) = (.bool true : Value) := (hf 25 (by decide +kernel)).new 2 (by kernel_rfl) (by kernel_rfl)
              simp only [Act.eval, Array.getD_eq_getD_getElem?] at e25
              simp [execOp, resolve, invoke, builtin, go_sem, e25]
            · exact .inr ⟨⟨_, _, _, rfl, rfl, by kernel_rfl, by kernel_rfl, fun _ h => h⟩, rfl, fun _ => rfl, rfl, fun _ => rfl⟩
            · exact .inr ⟨⟨_, _, _, rfl, rfl, by kernel_rfl, by kernel_rfl, fun _ h => h⟩, rfl, fun _ => rfl, rfl, fun _ => rfl⟩
            · exact .inr ⟨⟨_, _, _, rfl, rfl, by kernel_rfl, by kernel_rfl, fun _ h => h⟩, rfl, fun _ => rfl, rfl, fun _ => rfl⟩
            · exact .inr ⟨⟨_, _, _, rfl, rfl, by kernel_rfl, by kernel_rfl, fun _ h => h⟩, rfl, fun _ => rfl, rfl, fun _ => rfl⟩
            · exact .inr ⟨⟨_, _, _, rfl, rfl, by kernel_rfl, by kernel_rfl, fun _ h => h⟩, rfl, fun _ => rfl, rfl, fun _ => rfl⟩
            · exact .inr ⟨⟨_, _, _, rfl, rfl, by kernel_rfl, by kernel_rfl, fun _ h => h⟩, rfl, fun _ => rfl, rfl, fun _ => rfl⟩
            · exact .inr ⟨⟨_, _, _, rfl, rfl, by kernel_rfl, by kernel_rfl, fun _ h => h⟩, rfl, fun _ => rfl, rfl, fun _ => rfl⟩
            · exact .inr ⟨⟨_, _, _, rfl, rfl, by kernel_rfl, by kernel_rfl, fun _ h => h⟩, rfl, fun _ => rfl, rfl, fun _ => rfl⟩
            · refine Fine2.run trivial _ rfl (fun _ => rfl) rfl rfl (fun L a w R' hw hm hmk hf => ?_)
              have e26 : a.eval (.tmp 26) = (.bool true : Value) := (hf 26 (by decide +kernel)).new 3 (by kernel_rfl) (by kernel_rfl)
              have e34 : a.eval (.tmp 34) = undef := (hf 34 (by decide +kernel)).new 11 (by kernel_rfl) (by kernel_rfl)
              simp only [Act.eval, Array.getD_eq_getD_getElem?] at e26 e34
              simp [execOp, resolve, invoke, builtin, go_sem, e26, e34]
            · refine Fine2.run trivial _ rfl (fun _ => rfl) rfl rfl (fun L a w R' hw hm hmk hf => ?_)
              have e35 : a.eval (.tmp 35) = (.bool true : Value) := (hf 35 (by decide +kernel)).new 12 (by kernel_rfl) (by kernel_rfl)
              simp only [Act.eval, Array.getD_eq_getD_getElem?] at e35
              simp [execOp, resolve, invoke, builtin, go_sem, e35]
          · intro u w9 hu hm9
            have hb : u 22 = .bool true := hu 22 13 rfl
            have hm8 : Mem wb w9 (pts wr.heap.size 98 [.int .i64 nn, .slice ba l bc] * (pts w0.heap.size 4 (sawCells p s) * (pts gl 60 [.pointer (some ⟨g, 0, none⟩), .int .i64 (p : Int), er] * R))) := hm9.left
            have HM4 := hid (hm8.right.right)
            simp only [putAll]
            rw [hb]
            clear hm9 hm8 hu hb HM hp0 hp1
            go_simp
            go_wp2_with fail
            go_ret2
            rw [HAS.out]
            exact ⟨rfl, HM4.out⟩
        · have hbig : (p : Int) ≤ nn := by omega
          clear hbad
          go_wp2_with fail
          refine region_mem (by kernel_rfl) (V := fun jv x => match jv with | 0 => x = (.pointer (some ⟨wr.heap.size, 0, none⟩) : Value) | 1 => x = (.int .i64 nn : Value) | 2 => x = (.bool false : Value) | 3 => x = (.bool false : Value) | 4 => x = (.pointer (some ⟨wr.heap.size, 0, none⟩) : Value) | 5 => x = (.int .i64 nn : Value) | 6 => x = (.pointer (some ⟨gl, 0, none⟩) : Value) | 7 => x = (.pointer (some ⟨gl, 0, none⟩) : Value) | 8 => x = (.pointer (some ⟨gl, 0, none⟩) : Value) | 9 => x = (.pointer (some ⟨gl, 1, none⟩) : Value) | 10 => x = (.int .i64 (p : Int) : Value) | 11 => x = (.bool true : Value) | 12 => x = (.bool true : Value) | 13 => x = (.bool true : Value) | _ => True) (A := (fun _ => pts wr.heap.size 98 [.int .i64 nn, .slice ba l bc] * (pts w0.heap.size 4 (sawCells p s) * (pts gl 60 [.pointer (some ⟨g, 0, none⟩), .int .i64 (p : Int), er] * R)))) (Bs := []) HM.out (fun _ _ _ => rfl) (show ([] : List Nat).Nodup by decide) (by kernel_rfl) (by kernel_rfl) ?_ ?_
          · refine ⟨?_, ?_, ?_, ?_, ?_, ?_, ?_, ?_, ?_, ?_, ?_, ?_, ?_, ?_, trivial⟩
            · refine Fine2.run trivial _ rfl (fun _ => rfl) rfl rfl (fun L a w R' hw hm hmk hf => ?_)
              have e8 : a.eval (.tmp 8) = (.pointer (some ⟨wr.heap.size, 0, none⟩) : Value) := (hf 8 (by decide +kernel)).old (by kernel_rfl)
              simp only [Act.eval, Array.getD_eq_getD_getElem?] at e8
              simp [execOp, resolve, invoke, builtin, go_sem, e8]
            · refine Fine2.run trivial _ rfl (fun _ => rfl) rfl rfl (fun L a w R' hw hm hmk hf => ?_)
              have e23 : a.eval (.tmp 23) = (.pointer (some ⟨wr.heap.size, 0, none⟩) : Value) := (hf 23 (by decide +kernel)).new 0 (by kernel_rfl) (by kernel_rfl)
              simp only [Act.eval, Array.getD_eq_getD_getElem?] at e23
              have hbx := hm.left
              have q0 := hbx.cell 0
              simp only [List.getElem?_cons_zero] at q0
              simp [execOp, resolve, invoke, builtin, go_sem, e23, q0]
            · refine Fine2.run trivial _ rfl (fun _ => rfl) rfl rfl (fun L a w R' hw hm hmk hf => ?_)
              have e24 : a.eval (.tmp 24) = (.int .i64 nn : Value) := (hf 24 (by decide +kernel)).new 1 (by kernel_rfl) (by kernel_rfl)
              simp only [Act.eval, Array.getD_eq_getD_getElem?] at e24
              simp [execOp, resolve, invoke, builtin, go_sem, e24, hneg]
            · refine Fine2.run trivial _ rfl (fun _ => rfl) rfl rfl (fun L a w R' hw hm hmk hf => ?_)
              have e25 : a.eval (.tmp 25) = (.bool false : Value) := (hf 25 (by decide +kernel)).new 2 (by kernel_rfl) (by kernel_rfl)
              simp only [Act.eval, Array.getD_eq_getD_getElem?] at e25
              simp [execOp, resolve, invoke, builtin, go_sem, e25]
            · refine Fine2.run ⟨_, rfl, by kernel_rfl, by kernel_rfl, fun _ h => h⟩ _ rfl (fun _ => rfl) rfl rfl (fun L a w R' hw hm hmk hf => ?_)
              have e8 : a.eval (.tmp 8) = (.pointer (some ⟨wr.heap.size, 0, none⟩) : Value) := (hf 8 (by decide +kernel)).old (by kernel_rfl)
              simp only [Act.eval, Array.getD_eq_getD_getElem?] at e8
              simp [execOp, resolve, invoke, builtin, go_sem, e8]
            · refine Fine2.run ⟨_, rfl, by kernel_rfl, by kernel_rfl, fun _ h => h⟩ _ rfl (fun _ => rfl) rfl rfl (fun L a w R' hw hm hmk hf => ?_)
              have e27 : a.eval (.tmp 27) = (.pointer (some ⟨wr.heap.size, 0, none⟩) : Value) := (hf 27 (by decide +kernel)).new 4 (by kernel_rfl) (by kernel_rfl)
              simp only [Act.eval, Array.getD_eq_getD_getElem?] at e27
              have hbx := hm.left
              have q0 := hbx.cell 0
              simp only [List.getElem?_cons_zero] at q0
              simp [execOp, resolve, invoke, builtin, go_sem, e27, q0]
            · refine Fine2.run ⟨_, rfl, by kernel_rfl, by kernel_rfl, fun _ h => h⟩ _ rfl (fun _ => rfl) rfl rfl (fun L a w R' hw hm hmk hf => ?_)
              have e0 : a.eval (.tmp 0) = (.pointer (some ⟨gl, 0, none⟩) : Value) := (hf 0 (by decide +kernel)).old (by kernel_rfl)
              simp only [Act.eval, Array.getD_eq_getD_getElem?] at e0
              simp [execOp, resolve, invoke, builtin, go_sem, e0]
            · refine Fine2.run ⟨_, rfl, by kernel_rfl, by kernel_rfl, fun _ h => h⟩ _ rfl (fun _ => rfl) rfl rfl (fun L a w R' hw hm hmk hf => ?_)
              have e29 : a.eval (.tmp 29) = (.pointer (some ⟨gl, 0, none⟩) : Value) := (hf 29 (by decide +kernel)).new 6 (by kernel_rfl) (by kernel_rfl)
              simp only [Act.eval, Array.getD_eq_getD_getElem?] at e29
              simp [execOp, resolve, invoke, builtin, go_sem, e29]
            · refine Fine2.run ⟨_, rfl, by kernel_rfl, by kernel_rfl, fun _ h => h⟩ _ rfl (fun _ => rfl) rfl rfl (fun L a w R' hw hm hmk hf => ?_)
              have e30 : a.eval (.tmp 30) = (.pointer (some ⟨gl, 0, none⟩) : Value) := (hf 30 (by decide +kernel)).new 7 (by kernel_rfl) (by kernel_rfl)
              simp only [Act.eval, Array.getD_eq_getD_getElem?] at e30
              simp [execOp, resolve, invoke, builtin, go_sem, e30]
            · refine Fine2.run ⟨_, rfl, by kernel_rfl, by kernel_rfl, fun _ h => h⟩ _ rfl (fun _ => rfl) rfl rfl (fun L a w R' hw hm hmk hf => ?_)
              have e31 : a.eval (.tmp 31) = (.pointer (some ⟨gl, 0, none⟩) : Value) := (hf 31 (by decide +kernel)).new 8 (by kernel_rfl) (by kernel_rfl)
              simp only [Act.eval, Array.getD_eq_getD_getElem?] at e31
              simp [execOp, resolve, invoke, builtin, go_sem, e31]
            · refine Fine2.run ⟨_, rfl, by kernel_rfl, by kernel_rfl, fun _ h => h⟩ _ rfl (fun _ => rfl) rfl rfl (fun L a w R' hw hm hmk hf => ?_)
              have e32 : a.eval (.tmp 32) = (.pointer (some ⟨gl, 1, none⟩) : Value) := (hf 32 (by decide +kernel)).new 9 (by kernel_rfl) (by kernel_rfl)
              simp only [Act.eval, Array.getD_eq_getD_getElem?] at e32
              have hbx := hm.left.right.right
              have q0 := hbx.cell 1
              simp only [List.getElem?_cons_zero, List.getElem?_cons_succ] at q0
              simp [execOp, resolve, invoke, builtin, go_sem, e32, q0]
            · refine Fine2.run ⟨_, rfl, by kernel_rfl, by kernel_rfl, fun _ h => h⟩ _ rfl (fun _ => rfl) rfl rfl (fun L a w R' hw hm hmk hf => ?_)
              have e28 : a.eval (.tmp 28) = (.int .i64 nn : Value) := (hf 28 (by decide +kernel)).new 5 (by kernel_rfl) (by kernel_rfl)
              have e33 : a.eval (.tmp 33) = (.int .i64 (p : Int) : Value) := (hf 33 (by decide +kernel)).new 10 (by kernel_rfl) (by kernel_rfl)
              simp only [Act.eval, Array.getD_eq_getD_getElem?] at e28 e33
              simp [execOp, resolve, invoke, builtin, go_sem, e28, e33, hbig]
            · refine Fine2.run trivial _ rfl (fun _ => rfl) rfl rfl (fun L a w R' hw hm hmk hf => ?_)
              have e26 : a.eval (.tmp 26) = (.bool false : Value) := (hf 26 (by decide +kernel)).new 3 (by kernel_rfl) (by kernel_rfl)
              have e34 : a.eval (.tmp 34) = (.bool true : Value) := (hf 34 (by decide +kernel)).new 11 (by kernel_rfl) (by kernel_rfl)
              simp only [Act.eval, Array.getD_eq_getD_getElem?] at e26 e34
              simp [execOp, resolve, invoke, builtin, go_sem, e26, e34]
            · refine Fine2.run trivial _ rfl (fun _ => rfl) rfl rfl (fun L a w R' hw hm hmk hf => ?_)
              have e35 : a.eval (.tmp 35) = (.bool true : Value) := (hf 35 (by decide +kernel)).new 12 (by kernel_rfl) (by kernel_rfl)
              simp only [Act.eval, Array.getD_eq_getD_getElem?] at e35
              simp [execOp, resolve, invoke, builtin, go_sem, e35]
          · intro u w9 hu hm9
            have hb : u 22 = .bool true := hu 22 13 rfl
            have hm8 : Mem wb w9 (pts wr.heap.size 98 [.int .i64 nn, .slice ba l bc] * (pts w0.heap.size 4 (sawCells p s) * (pts gl 60 [.pointer (some ⟨g, 0, none⟩), .int .i64 (p : Int), er] * R))) := hm9.left
            have HM4 := hid (hm8.right.right)
            simp only [putAll]
            rw [hb]
            clear hm9 hm8 hu hb HM hp0 hp1
            go_simp
            go_wp2_with fail
            go_ret2
            rw [HAS.out]
            exact ⟨rfl, HM4.out⟩
      · have hneg : ¬ nn < 0 := by omega
        have hbig : ¬ (p : Int) ≤ nn := by omega
        go_wp2_with fail
        refine region_mem (by kernel_rfl) (V := fun jv x => match jv with | 0 => x = (.pointer (some ⟨wr.heap.size, 0, none⟩) : Value) | 1 => x = (.int .i64 nn : Value) | 2 => x = (.bool false : Value) | 3 => x = (.bool false : Value) | 4 => x = (.pointer (some ⟨wr.heap.size, 0, none⟩) : Value) | 5 => x = (.int .i64 nn : Value) | 6 => x = (.pointer (some ⟨gl, 0, none⟩) : Value) | 7 => x = (.pointer (some ⟨gl, 0, none⟩) : Value) | 8 => x = (.pointer (some ⟨gl, 0, none⟩) : Value) | 9 => x = (.pointer (some ⟨gl, 1, none⟩) : Value) | 10 => x = (.int .i64 (p : Int) : Value) | 11 => x = (.bool false : Value) | 12 => x = (.bool false : Value) | 13 => x = (.bool false : Value) | _ => True) (A := (fun _ => pts wr.heap.size 98 [.int .i64 nn, .slice ba l bc] * (pts w0.heap.size 4 (sawCells p s) * (pts gl 60 [.pointer (some ⟨g, 0, none⟩), .int .i64 (p : Int), er] * R)))) (Bs := []) HM.out (fun _ _ _ => rfl) (show ([] : List Nat).Nodup by decide) (by kernel_rfl) (by kernel_rfl) ?_ ?_
        · refine ⟨?_, ?_, ?_, ?_, ?_, ?_, ?_, ?_, ?_, ?_, ?_, ?_, ?_, ?_, trivial⟩
          · refine Fine2.run trivial _ rfl (fun _ => rfl) rfl rfl (fun L a w R' hw hm hmk hf => ?_)
            have e8 : a.eval (.tmp 8) = (.pointer (some ⟨wr.heap.size, 0, none⟩) : Value) := (hf 8 (by decide +kernel)).old (by kernel_rfl)
            simp only [Act.eval, Array.getD_eq_getD_getElem?] at e8
            simp [execOp, resolve, invoke, builtin, go_sem, e8]
          · refine Fine2.run trivial _ rfl (fun _ => rfl) rfl rfl (fun L a w R' hw hm hmk hf => ?_)
            have e23 : a.eval (.tmp 23) = (.pointer (some ⟨wr.heap.size, 0, none⟩) : Value) := (hf 23 (by decide +kernel)).new 0 (by kernel_rfl) (by kernel_rfl)
            simp only [Act.eval, Array.getD_eq_getD_getElem?] at e23
            have hbx := hm.left
            have q0 := hbx.cell 0
            simp only [List.getElem?_cons_zero] at q0
            simp [execOp, resolve, invoke, builtin, go_sem, e23, q0]
          · refine Fine2.run trivial _ rfl (fun _ => rfl) rfl rfl (fun L a w R' hw hm hmk hf => ?_)
            have e24 : a.eval (.tmp 24) = (.int .i64 nn : Value) := (hf 24 (by decide +kernel)).new 1 (by kernel_rfl) (by kernel_rfl)
            simp only [Act.eval, Array.getD_eq_getD_getElem?] at e24
            simp [execOp, resolve, invoke, builtin, go_sem, e24, hneg]
          · refine Fine2.run trivial _ rfl (fun _ => rfl) rfl rfl (fun L a w R' hw hm hmk hf => ?_)
            have e25 : a.eval (.tmp 25) = (.bool false : Value) := (hf 25 (by decide +kernel)).new 2 (by kernel_rfl) (by kernel_rfl)
            simp only [Act.eval, Array.getD_eq_getD_getElem?] at e25
            simp [execOp, resolve, invoke, builtin, go_sem, e25]
          · refine Fine2.run ⟨_, rfl, by kernel_rfl, by kernel_rfl, fun _ h => h⟩ _ rfl (fun _ => rfl) rfl rfl (fun L a w R' hw hm hmk hf => ?_)
            have e8 : a.eval (.tmp 8) = (.pointer (some ⟨wr.heap.size, 0, none⟩) : Value) := (hf 8 (by decide +kernel)).old (by kernel_rfl)
            simp only [Act.eval, Array.getD_eq_getD_getElem?] at e8
            simp [execOp, resolve, invoke, builtin, go_sem, e8]
          · refine Fine2.run ⟨_, rfl, by kernel_rfl, by kernel_rfl, fun _ h => h⟩ _ rfl (fun _ => rfl) rfl rfl (fun L a w R' hw hm hmk hf => ?_)
            have e27 : a.eval (.tmp 27) = (.pointer (some ⟨wr.heap.size, 0, none⟩) : Value) := (hf 27 (by decide +kernel)).new 4 (by kernel_rfl) (by kernel_rfl)
            simp only [Act.eval, Array.getD_eq_getD_getElem?] at e27
            have hbx := hm.left
            have q0 := hbx.cell 0
            simp only [List.getElem?_cons_zero] at q0
            simp [execOp, resolve, invoke, builtin, go_sem, e27, q0]
          · refine Fine2.run ⟨_, rfl, by kernel_rfl, by kernel_rfl, fun _ h => h⟩ _ rfl (fun _ => rfl) rfl rfl (fun L a w R' hw hm hmk hf => ?_)
            have e0 : a.eval (.tmp 0) = (.pointer (some ⟨gl, 0, none⟩) : Value) := (hf 0 (by decide +kernel)).old (by kernel_rfl)
            simp only [Act.eval, Array.getD_eq_getD_getElem?] at e0
            simp [execOp, resolve, invoke, builtin, go_sem, e0]
          · refine Fine2.run ⟨_, rfl, by kernel_rfl, by kernel_rfl, fun _ h => h⟩ _ rfl (fun _ => rfl) rfl rfl (fun L a w R' hw hm hmk hf => ?_)
            have e29 : a.eval (.tmp 29) = (.pointer (some ⟨gl, 0, none⟩) : Value) := (hf 29 (by decide +kernel)).new 6 (by kernel_rfl) (by kernel_rfl)
            simp only [Act.eval, Array.getD_eq_getD_getElem?] at e29
            simp [execOp, resolve, invoke, builtin, go_sem, e29]
          · refine Fine2.run ⟨_, rfl, by kernel_rfl, by kernel_rfl, fun _ h => h⟩ _ rfl (fun _ => rfl) rfl rfl (fun L a w R' hw hm hmk hf => ?_)
            have e30 : a.eval (.tmp 30) = (.pointer (some ⟨gl, 0, none⟩) : Value) := (hf 30 (by decide +kernel)).new 7 (by kernel_rfl) (by kernel_rfl)
            simp only [Act.eval, Array.getD_eq_getD_getElem?] at e30
            simp [execOp, resolve, invoke, builtin, go_sem, e30]
          · refine Fine2.run ⟨_, rfl, by kernel_rfl, by kernel_rfl, fun _ h => h⟩ _ rfl (fun _ => rfl) rfl rfl (fun L a w R' hw hm hmk hf => ?_)
            have e31 : a.eval (.tmp 31) = (.pointer (some ⟨gl, 0, none⟩) : Value) := (hf 31 (by decide +kernel)).new 8 (by kernel_rfl) (by kernel_rfl)
            simp only [Act.eval, Array.getD_eq_getD_getElem?] at e31
            simp [execOp, resolve, invoke, builtin, go_sem, e31]
          · refine Fine2.run ⟨_, rfl, by kernel_rfl, by kernel_rfl, fun _ h => h⟩ _ rfl (fun _ => rfl) rfl rfl (fun L a w R' hw hm hmk hf => ?_)
            have e32 : a.eval (.tmp 32) = (.pointer (some ⟨gl, 1, none⟩) : Value) := (hf 32 (by decide +kernel)).new 9 (by kernel_rfl) (by kernel_rfl)
            simp only [Act.eval, Array.getD_eq_getD_getElem?] at e32
            have hbx := hm.left.right.right
            have q0 := hbx.cell 1
            simp only [List.getElem?_cons_zero, List.getElem?_cons_succ] at q0
            simp [execOp, resolve, invoke, builtin, go_sem, e32, q0]
          · refine Fine2.run ⟨_, rfl, by kernel_rfl, by kernel_rfl, fun _ h => h⟩ _ rfl (fun _ => rfl) rfl rfl (fun L a w R' hw hm hmk hf => ?_)
            have e28 : a.eval (.tmp 28) = (.int .i64 nn : Value) := (hf 28 (by decide +kernel)).new 5 (by kernel_rfl) (by kernel_rfl)
            have e33 : a.eval (.tmp 33) = (.int .i64 (p : Int) : Value) := (hf 33 (by decide +kernel)).new 10 (by kernel_rfl) (by kernel_rfl)
            simp only [Act.eval, Array.getD_eq_getD_getElem?] at e28 e33
            simp [execOp, resolve, invoke, builtin, go_sem, e28, e33, hbig]
          · refine Fine2.run trivial _ rfl (fun _ => rfl) rfl rfl (fun L a w R' hw hm hmk hf => ?_)
            have e26 : a.eval (.tmp 26) = (.bool false : Value) := (hf 26 (by decide +kernel)).new 3 (by kernel_rfl) (by kernel_rfl)
            have e34 : a.eval (.tmp 34) = (.bool false : Value) := (hf 34 (by decide +kernel)).new 11 (by kernel_rfl) (by kernel_rfl)
            simp only [Act.eval, Array.getD_eq_getD_getElem?] at e26 e34
            simp [execOp, resolve, invoke, builtin, go_sem, e26, e34]
          · refine Fine2.run trivial _ rfl (fun _ => rfl) rfl rfl (fun L a w R' hw hm hmk hf => ?_)
            have e35 : a.eval (.tmp 35) = (.bool false : Value) := (hf 35 (by decide +kernel)).new 12 (by kernel_rfl) (by kernel_rfl)
            simp only [Act.eval, Array.getD_eq_getD_getElem?] at e35
            simp [execOp, resolve, invoke, builtin, go_sem, e35]
        · intro u w9 hu hm9
          have hb : u 22 = .bool false := hu 22 13 rfl
          have hm8 : Mem wb w9 (pts wr.heap.size 98 [.int .i64 nn, .slice ba l bc] * (pts w0.heap.size 4 (sawCells p s) * (pts gl 60 [.pointer (some ⟨g, 0, none⟩), .int .i64 (p : Int), er] * R))) := hm9.left
          have HM4 := hid (hm8.right.right)
          have HM5 := hid hm8
          have r0 := hm8.cell 0
          have r1 := hm8.cell 1
          simp only [List.getElem?_cons_zero, List.getElem?_cons_succ] at r0 r1
          have hmn : ∃ m : Nat, nn = (m : Int) := ⟨nn.toNat, by omega⟩
          obtain ⟨m, rfl⟩ := hmn
          have hmp : m < p := by omega
          have s0 := hm8.right.cell m
          have sf := hm8.right.frozen m
          rw [sawCells_at p s m hmp] at s0
          simp only [putAll]
          rw [hb]
          clear hm9 hm8 hu hb HM hp0 hp1 hneg
          by_cases hl : l = 1024
          · subst hl
            by_cases hse : m ∈ s
            · have HAS : Hid (askedFrom p 0 [] (zs.map fun z => (z.1, z.2.2.1)) = (k, 91)) := by
                show _ = _
                rw [HIO2.out]
                unfold askedFrom
                rw [if_neg (by omega), if_neg (by simp), if_pos (by simpa using hse)]
              have hd : decide (m ∈ s) = true := by simpa using hse
              rw [hd] at s0
              clear HIO2 hse hd hbad
              go_simp
              go_wp2_with fail
              go_ret2
              rw [HAS.out]
              exact ⟨rfl, HM4.out⟩
            · have HNX : Hid (askedFrom p 0 [] (zs.map fun z => (z.1, z.2.2.1)) = askedFrom p (k + 1) (m :: s) ((zs.map fun z => (z.1, z.2.2.1)).drop (k + 1))) := by
                show _ = _
                rw [HIO2.out]
                conv => lhs; unfold askedFrom
                rw [if_neg (by omega), if_neg (by simp), if_neg (by simpa using hse)]
                simp
              have hd : decide (m ∈ s) = false := by simpa using hse
              rw [hd] at s0
              have hm6 := HM5.out.right.setCell m (.bool true)
              rw [sawCells_set] at hm6
              have HM6 := hid hm6
              clear HIO2 hse hd hbad HM4 HM5 hm6
              go_simp
              go_wp2_with fail
              go_roundw
              case rel => exact ⟨k + 1, m :: s, by omega, by go_num, HNX.out, HM6.out⟩
              case measure => simp [intOf] <;> omega
          · have HAS : Hid (askedFrom p 0 [] (zs.map fun z => (z.1, z.2.2.1)) = (k, 82)) := by
              show _ = _
              rw [HIO2.out]
              unfold askedFrom
              rw [if_neg (by omega), if_pos hl]
            have hli : ¬ (l : Int) = 1024 := by omega
            have hlb : ((l : Int) != 1024) = true := by simpa using hli
            clear HIO2 hl hbad
            go_simp
            go_wp2_with fail
            go_ret2
            rw [HAS.out]
            exact ⟨rfl, HM4.out⟩
    · obtain rfl : k = n := by omega
      have HAS : Hid (askedFrom p 0 [] (zs.map fun z => (z.1, z.2.2.1)) = (0, 0)) := by
        show _ = _
        rw [HIO.out, List.drop_of_length_le (by rw [HLN.out]; exact Nat.le_refl _)]
        rfl
      have HM4 := hid HM1.out.right
      clear HIO HM1
      go_wp2_with fail
      go_ret2
      rw [HAS.out]
      exact ⟨rfl, HM4.out⟩
end Go.Proofs.Ytpaebopmppbjbaa
