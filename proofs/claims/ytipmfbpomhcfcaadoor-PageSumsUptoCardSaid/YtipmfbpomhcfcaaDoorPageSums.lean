/- PageSums, walked. -/
import Derived.Test.YtipmfbpomhcfcaaDoorSums
import Derived.Test.YtipmfbpomhcfcaaDoorReg2
set_option linter.unusedVariables false
set_option linter.unusedSimpArgs false
namespace Go.Le
open Go Go.RowKit
/-- n zeros -/
def zrs (n : Nat) : List UInt8 := List.replicate n 0
theorem zrs_length (n : Nat) : (zrs n).length = n := by unfold zrs; rw [List.length_replicate]
theorem xor_u8n (x y : Nat) (hx : x < 256) (hy : y < 256) : bits .xor .u8 (x : Int) (y : Int) = ((x ^^^ y : Nat) : Int) := by
  have hxy : x ^^^ y < 2 ^ 8 := Nat.xor_lt_two_pow (by omega) (by omega)
  unfold bits
  have a1 : BitVec.ofInt IntKind.u8.bits (x : Int) = BitVec.ofNat 8 x := by show BitVec.ofInt 8 _ = _; rw [BitVec.ofInt_natCast]
  have a2 : BitVec.ofInt IntKind.u8.bits (y : Int) = BitVec.ofNat 8 y := by show BitVec.ofInt 8 _ = _; rw [BitVec.ofInt_natCast]
  rw [a1, a2]
  show IntKind.u8.wrap (((BitVec.ofNat 8 x ^^^ BitVec.ofNat 8 y).toNat : Nat) : Int) = _
  rw [BitVec.toNat_xor, BitVec.toNat_ofNat, BitVec.toNat_ofNat, Nat.mod_eq_of_lt (by omega), Nat.mod_eq_of_lt (by omega)]
  simp [IntKind.wrap, IntKind.bits, IntKind.signed]
  omega
end Go.Le
namespace Go.Proofs.YtipmfbpomhcfcaaDoor
open Go Go.RowKit Go.Le
theorem u8info : (Tryd.prog.info? 5).map (fun i => (i.zero, i.size, i.bytes)) = some (some (.int .u8 0), 1, 1) := by kernel_rfl
set_option maxRecDepth 100000 in
set_option maxHeartbeats 4000000 in
theorem pageSums_any (W : World) (ht : Tabled W) (cut : Int) (k1 : -9223372036854775808 ≤ cut) (k2 : cut ≤ 9223372036854775807) (sa : Option Addr) (n c : Nat) (l : List UInt8) (h : Sl W sa n c (byts l)) (hn : n ≤ 1048576) (sb : Option Addr) (n' c' : Nat) (r : List UInt8) (h' : Sl W sb n' c' (byts r)) (hn' : n' ≤ 1048576) :
    Calls Tryd.prog 3 #[.slice sa n c, .slice sb n' c', .int .i64 cut] W fun e w' => e = .returned (.bool true) ∧ Fr W.heap.size [] W w' := by
  have hle := h.le
  have hcap := h.cap
  have hlen := h.len
  rw [byts_length] at hlen
  have HL := hid hlen
  have hle' := h'.le
  have hcap' := h'.cap
  have hlen' := h'.len
  rw [byts_length] at hlen'
  have HR := hid hlen'
  clear hlen hlen'
  have HA := hid h
  have HB := hid h'
  have HT : Hid (∀ w, Fr W.heap.size [] W w → Tabled w) := fun w hf => ht.ext hf
  clear h h' ht
  obtain ⟨K, hK⟩ : ∃ K, K = (cut % ((n : Int) + 1)).toNat := ⟨_, rfl⟩
  have hKi : cut % ((n : Int) + 1) = (K : Int) := by rw [hK, Int.toNat_of_nonneg (Int.emod_nonneg _ (by omega))]
  have hKn : K ≤ n := by have := Int.emod_lt_of_pos cut (show (0 : Int) < (n : Int) + 1 by omega); omega
  have HK := hid hKi
  clear hK hKi
  have FD : Hid (∀ w g, Blk w g 22 [.slice (some ⟨W.heap.size, 0, none⟩) 9 9] → Sl w (some ⟨W.heap.size, 0, none⟩) 9 9 (byts [49, 50, 51, 52, 53, 54, 55, 56, 57]) → Fr W.heap.size [] W w →
      Calls Tryd.prog 8 #[.slice (some ⟨g, 0, none⟩) 1 1] w fun e w' => e = .returned (.int .u32 3808858755) ∧ w = w') := by
    intro w g hg hz hf
    have h1 := sum_any (some ⟨g, 0, none⟩) 1 1 [[49, 50, 51, 52, 53, 54, 55, 56, 57]] w (HT.out w hf) (SlL.of_blk (ls := [[49, 50, 51, 52, 53, 54, 55, 56, 57]]) hg (And.intro ⟨_, _, _, rfl, hz⟩ trivial) 1 rfl (by omega)) (by omega)
    rw [show ([[49, 50, 51, 52, 53, 54, 55, 56, 57]] : List (List UInt8)).flatten = [49, 50, 51, 52, 53, 54, 55, 56, 57] from rfl, crc_digits] at h1
    exact h1
  have FN : Hid (∀ w, Fr W.heap.size [] W w → Calls Tryd.prog 8 #[.slice none 0 0] w fun e w' => e = .returned (.int .u32 0) ∧ w = w') := by
    intro w hf
    have h1 := sum_any none 0 0 [] w (HT.out w hf) ⟨⟨[], Sl.nil' w, rfl, fun i hi => by simp at hi⟩⟩ (by omega)
    rw [show ([] : List (List UInt8)).flatten = [] from rfl, crc_none] at h1
    exact h1
  have HA29 : Hid (Sl W sa K c (byts (l.take K))) := by
    have h1 := HA.out.take K hKn
    rw [byts_take] at h1
    exact hid h1
  have HA32 : Hid (Sl W (if c = K then sa else sa.map (·.add K)) (n - K) (c - K) (byts (l.drop K))) := by
    have h1 := HA.out.cut K n hKn (Nat.le_refl _) _ rfl
    rw [byts_take, byts_drop, List.take_of_length_le (by rw [HL.out]; omega)] at h1
    exact hid h1
  have ncK : ¬ c < K := by omega
  have Kc : K ≤ c := by omega
  have nnK : ¬ n < K := by omega
  have ncn : ¬ c < n := by omega
  obtain ⟨i8, hi8, hz8, hs8, hb8⟩ := info_parts u8info
  have HI := hid (And.intro hi8 (And.intro hz8 (And.intro hs8 hb8)))
  clear hi8 hz8 hs8 hb8
  have kc := fun (w : World) (C : Array Value) (n c : Nat) => Lib.run_convert_bytes_const (P := Tryd.prog) w 22 5 C n c Tryd.underlying22 Tryd.underlying5
  go_enter Tryd.func3, Tryd.ntmps3
  go_wp2_with fail
  refine (FD.out _ _ (by repeat (first | assumption | apply Blk.drew | exact Blk.new' _ _ (by first | rfl | (simp; done) | (simp; omega)) | apply Blk.alloc)) ((Sl.new (byts [49, 50, 51, 52, 53, 54, 55, 56, 57]) 5 (9, 10) 9 rfl (by omega)).ext (by repeat (first | exact Fr.refl _ _ _ | assumption | apply Fr.drew | (refine Fr.drewN ?_ _) | (refine Fr.alloc ?_ (by first | omega | (simp; done) | (simp; omega)) _) | (refine Fr.setCell ?_ (by first | (left; simp; done) | (right; simp; done) | (right; simp; omega)) _)))) (by repeat (first | exact Fr.refl _ _ _ | assumption | apply Fr.drew | (refine Fr.drewN ?_ _) | (refine Fr.alloc ?_ (by first | omega | (simp; done) | (simp; omega)) _) | (refine Fr.setCell ?_ (by first | (left; simp; done) | (right; simp; done) | (right; simp; omega)) _)))).mono ?_
  rintro e w' ⟨rfl, rfl⟩
  dsimp only
  go_wp2_with fail
  refine (FN.out _ (by repeat (first | exact Fr.refl _ _ _ | assumption | apply Fr.drew | (refine Fr.drewN ?_ _) | (refine Fr.alloc ?_ (by first | omega | (simp; done) | (simp; omega)) _) | (refine Fr.setCell ?_ (by first | (left; simp; done) | (right; simp; done) | (right; simp; omega)) _)))).mono ?_
  rintro e w' ⟨rfl, rfl⟩
  dsimp only
  go_wp2_with fail
  refine (rest_any cut ((n : Int) + 1) _ (by omega) (by omega) k1 k2).mono ?_
  rintro e w' ⟨rfl, rfl⟩
  dsimp only
  rw [HK.out]
  have hm0 := ((Mem.start W).alloc' (.cells (byts [49, 50, 51, 52, 53, 54, 55, 56, 57]).toArray 5 (9, 10))).alloc' (.cells #[.slice (some ⟨W.heap.size, 0, none⟩) 9 9] 22)
  have HM0 := hid hm0
  clear hm0
  go_wp2_with fail
  obtain ⟨hi8, hz8, hs8, hb8⟩ := HI.out
  refine region_mem (by kernel_rfl) (V := fun i x => match i with | 0 => x = (.slice sa n c : Value) | 1 => x = (.int .i64 (K : Int) : Value) | 2 => x = (.slice sa K c : Value) | 3 => x = (.slice sa n c : Value) | 4 => x = (.int .i64 (K : Int) : Value) | 5 => x = (.slice (if c = K then sa else sa.map (·.add K)) (n - K) (c - K) : Value) | 6 => ∃ g, x = (.slice (some ⟨g, 0, none⟩) 2 2 : Value) | 7 => x = (.int .u32 ((crc l).toNat : Int) : Value) | 8 => x = (.slice sa n c : Value) | 9 => ∃ g, x = (.slice (some ⟨g, 0, none⟩) 1 1 : Value) | 10 => x = (.int .u32 ((crc l).toNat : Int) : Value) | 11 => x = (.bool false : Value) | 12 => x = (.bool false : Value) | 13 => x = (.slice sa n c : Value) | 14 => x = (.slice sb n' c' : Value) | 15 => ∃ g, x = (.slice (some ⟨g, 0, none⟩) 3 3 : Value) | 16 => x = (.int .u32 ((crc (l ++ r)).toNat : Int) : Value) | 17 => x = (.slice sa n c : Value) | 18 => ∃ p q, x = (.slice p n q : Value) | 19 => x = (.slice sb n' c' : Value) | 20 => ∃ p q, x = (.slice p (n + n') q : Value) | 21 => ∃ g, x = (.slice (some ⟨g, 0, none⟩) 1 1 : Value) | 22 => x = (.int .u32 ((crc (l ++ r)).toNat : Int) : Value) | 23 => x = (.bool false : Value) | 24 => x = (.bool false : Value) | _ => True) (A := (fun _ => emp)) (Bs := [(6, none, blkB 22 2 [(.slice sa K c : Value), (.slice (if c = K then sa else sa.map (·.add K)) (n - K) (c - K) : Value)]), (9, none, blkB 22 1 [(.slice sa n c : Value)]), (15, none, blkB 22 3 [(.slice sa n c : Value), .slice none 0 0, (.slice sb n' c' : Value)]), (18, some 20, rowB 5 n (byts (l))), (20, some 21, rowB 5 (n + n') (byts (l ++ r))), (21, none, (fun v => ex fun x : Option Addr × Nat => blkB 22 1 [.slice x.1 (n + n') x.2] v * row 5 1 x.1 (n + n') x.2 (byts (l ++ r))))]) HM0.out (fun _ _ _ => rfl) (show ([6, 9, 15, 18, 20, 21] : List Nat).Nodup by decide) (by kernel_rfl) (by kernel_rfl) ?_ ?_
  · refine ⟨?_, ?_, ?_, ?_, ?_, ?_, ?_, ?_, ?_, ?_, ?_, ?_, ?_, ?_, ?_, ?_, ?_, ?_, ?_, ?_, ?_, ?_, ?_, ?_, ?_, trivial⟩
    · refine Fine2.run trivial _ rfl (fun _ => rfl) rfl rfl (fun L a w R hw hm hmk hf => ?_)
      have e0 : a.eval (.tmp 0) = (.slice sa n c : Value) := (hf 0 (by decide +kernel)).old (by kernel_rfl)
      simp only [Act.eval, Array.getD_eq_getD_getElem?] at e0
      simp [execOp, resolve, invoke, builtin, go_sem, e0]
    · refine Fine2.run trivial _ rfl (fun _ => rfl) rfl rfl (fun L a w R hw hm hmk hf => ?_)
      have e7 : a.eval (.tmp 7) = (.int .i64 (K : Int) : Value) := (hf 7 (by decide +kernel)).old (by kernel_rfl)
      simp only [Act.eval, Array.getD_eq_getD_getElem?] at e7
      simp [execOp, resolve, invoke, builtin, go_sem, e7]
    · refine Fine2.run trivial _ rfl (fun _ => rfl) rfl rfl (fun L a w R hw hm hmk hf => ?_)
      have e27 : a.eval (.tmp 27) = (.slice sa n c : Value) := (hf 27 (by decide +kernel)).new 0 (by kernel_rfl) (by kernel_rfl)
      have e28 : a.eval (.tmp 28) = (.int .i64 (K : Int) : Value) := (hf 28 (by decide +kernel)).new 1 (by kernel_rfl) (by kernel_rfl)
      simp only [Act.eval, Array.getD_eq_getD_getElem?] at e27 e28
      simp [execOp, resolve, invoke, builtin, go_sem, e27, e28, ncK, Kc]
    · refine Fine2.run trivial _ rfl (fun _ => rfl) rfl rfl (fun L a w R hw hm hmk hf => ?_)
      have e0 : a.eval (.tmp 0) = (.slice sa n c : Value) := (hf 0 (by decide +kernel)).old (by kernel_rfl)
      simp only [Act.eval, Array.getD_eq_getD_getElem?] at e0
      simp [execOp, resolve, invoke, builtin, go_sem, e0]
    · refine Fine2.run trivial _ rfl (fun _ => rfl) rfl rfl (fun L a w R hw hm hmk hf => ?_)
      have e7 : a.eval (.tmp 7) = (.int .i64 (K : Int) : Value) := (hf 7 (by decide +kernel)).old (by kernel_rfl)
      simp only [Act.eval, Array.getD_eq_getD_getElem?] at e7
      simp [execOp, resolve, invoke, builtin, go_sem, e7]
    · refine Fine2.run trivial _ rfl (fun _ => rfl) rfl rfl (fun L a w R hw hm hmk hf => ?_)
      have e30 : a.eval (.tmp 30) = (.slice sa n c : Value) := (hf 30 (by decide +kernel)).new 3 (by kernel_rfl) (by kernel_rfl)
      have e31 : a.eval (.tmp 31) = (.int .i64 (K : Int) : Value) := (hf 31 (by decide +kernel)).new 4 (by kernel_rfl) (by kernel_rfl)
      simp only [Act.eval, Array.getD_eq_getD_getElem?] at e30 e31
      simp [execOp, resolve, invoke, builtin, go_sem, e30, e31, nnK, hKn]
    · refine Fine2.open trivial (fun L a w R hL hw hm hmk hf => ?_)
      rw [eaten_none rfl, emp_sep] at hm
      have e29 : a.eval (.tmp 29) = (.slice sa K c : Value) := (hf 29 (by decide +kernel)).new 2 (by kernel_rfl) (by kernel_rfl)
      have e32 : a.eval (.tmp 32) = (.slice (if c = K then sa else sa.map (·.add K)) (n - K) (c - K) : Value) := (hf 32 (by decide +kernel)).new 5 (by kernel_rfl) (by kernel_rfl)
      simp only [Act.eval, Array.getD_eq_getD_getElem?] at e29 e32
      refine ⟨.slice (some ⟨w.heap.size, 0, none⟩) 2 2, w.alloc (.cells #[(.slice sa K c : Value), (.slice (if c = K then sa else sa.map (·.add K)) (n - K) (c - K) : Value)] 22), ?_, ⟨_, rfl⟩, ?_⟩
      · simp [execOp, resolve, invoke, builtin, go_sem, e29, e32]
      · have hn := hm.alloc [(.slice sa K c : Value), (.slice (if c = K then sa else sa.map (·.add K)) (n - K) (c - K) : Value)] 22
        exact (Mem.blkB.2 ⟨_, rfl, hn⟩ : Mem W _ (blkB 22 2 [(.slice sa K c : Value), (.slice (if c = K then sa else sa.map (·.add K)) (n - K) (c - K) : Value)] _ * _)).p1
    · refine .inl ⟨trivial, fun L a w Kq R hL hw hm hmk hf hK => ?_⟩
      rw [eaten_none rfl, emp_sep] at hm
      obtain ⟨R', rfl⟩ := hmk [true, false, false, false, false, false] (by kernel_rfl)
      have hm' : Mem W w (_ * (_ * R')) := hm
      obtain ⟨g, y, m1⟩ := Mem.blkB.1 hm'.p1
      have e33 : a.eval (.tmp 33) = .slice (some ⟨g, 0, none⟩) 2 2 := y
      simp only [Act.eval, Array.getD_eq_getD_getElem?] at e33
      unfold Oper.wp
      rw [show (execOp a.eval _).run Tryd.prog w = .ok (.enter 8 #[.slice (some ⟨g, 0, none⟩) 2 2]) w from by simp [execOp, resolve, invoke, go_sem, e33]]
      refine (sum_any _ _ _ [l.take K, l.drop K] w (HT.out w hm.1) (SlL.of_blk (ls := [l.take K, l.drop K]) m1.blk.1 (And.intro ⟨_, _, _, rfl, HA29.out.ext hm.1⟩ (And.intro ⟨_, _, _, rfl, HA32.out.ext hm.1⟩ trivial)) 2 rfl (by omega)) (by omega)).mono ?_
      rintro e w' ⟨rfl, rfl⟩
      rw [show ([l.take K, l.drop K] : List (List UInt8)).flatten = l by simp]
      exact hK _ _ rfl (by show Mem W w (_ * (emp * _)); rw [emp_sep]; exact hm)
    · refine Fine2.run trivial _ rfl (fun _ => rfl) rfl rfl (fun L a w R hw hm hmk hf => ?_)
      have e0 : a.eval (.tmp 0) = (.slice sa n c : Value) := (hf 0 (by decide +kernel)).old (by kernel_rfl)
      simp only [Act.eval, Array.getD_eq_getD_getElem?] at e0
      simp [execOp, resolve, invoke, builtin, go_sem, e0]
    · refine Fine2.open trivial (fun L a w R hL hw hm hmk hf => ?_)
      rw [eaten_none rfl, emp_sep] at hm
      have e35 : a.eval (.tmp 35) = (.slice sa n c : Value) := (hf 35 (by decide +kernel)).new 8 (by kernel_rfl) (by kernel_rfl)
      simp only [Act.eval, Array.getD_eq_getD_getElem?] at e35
      refine ⟨.slice (some ⟨w.heap.size, 0, none⟩) 1 1, w.alloc (.cells #[(.slice sa n c : Value)] 22), ?_, ⟨_, rfl⟩, ?_⟩
      · simp [execOp, resolve, invoke, builtin, go_sem, e35]
      · have hn := hm.alloc [(.slice sa n c : Value)] 22
        exact (Mem.blkB.2 ⟨_, rfl, hn⟩ : Mem W _ (blkB 22 1 [(.slice sa n c : Value)] _ * _)).p1
    · refine .inl ⟨trivial, fun L a w Kq R hL hw hm hmk hf hK => ?_⟩
      rw [eaten_none rfl, emp_sep] at hm
      obtain ⟨R', rfl⟩ := hmk [false, true, false, false, false, false] (by kernel_rfl)
      have hm' : Mem W w (_ * (_ * R')) := hm
      obtain ⟨g, y, m1⟩ := Mem.blkB.1 hm'.p1
      have e36 : a.eval (.tmp 36) = .slice (some ⟨g, 0, none⟩) 1 1 := y
      simp only [Act.eval, Array.getD_eq_getD_getElem?] at e36
      unfold Oper.wp
      rw [show (execOp a.eval _).run Tryd.prog w = .ok (.enter 8 #[.slice (some ⟨g, 0, none⟩) 1 1]) w from by simp [execOp, resolve, invoke, go_sem, e36]]
      refine (sum_any _ _ _ [l] w (HT.out w hm.1) (SlL.of_blk (ls := [l]) m1.blk.1 (And.intro ⟨_, _, _, rfl, HA.out.ext hm.1⟩ trivial) 1 rfl (by omega)) (by omega)).mono ?_
      rintro e w' ⟨rfl, rfl⟩
      rw [show ([l] : List (List UInt8)).flatten = l by simp]
      exact hK _ _ rfl (by show Mem W w (_ * (emp * _)); rw [emp_sep]; exact hm)
    · refine Fine2.run trivial _ rfl (fun _ => rfl) rfl rfl (fun L a w R hw hm hmk hf => ?_)
      have e34 : a.eval (.tmp 34) = (.int .u32 ((crc l).toNat : Int) : Value) := (hf 34 (by decide +kernel)).new 7 (by kernel_rfl) (by kernel_rfl)
      have e37 : a.eval (.tmp 37) = (.int .u32 ((crc l).toNat : Int) : Value) := (hf 37 (by decide +kernel)).new 10 (by kernel_rfl) (by kernel_rfl)
      simp only [Act.eval, Array.getD_eq_getD_getElem?] at e34 e37
      simp [execOp, resolve, invoke, builtin, go_sem, e34, e37]
    · refine Fine2.run trivial _ rfl (fun _ => rfl) rfl rfl (fun L a w R hw hm hmk hf => ?_)
      have e38 : a.eval (.tmp 38) = (.bool false : Value) := (hf 38 (by decide +kernel)).new 11 (by kernel_rfl) (by kernel_rfl)
      simp only [Act.eval, Array.getD_eq_getD_getElem?] at e38
      simp [execOp, resolve, invoke, builtin, go_sem, e38]
    · refine Fine2.run ⟨_, rfl, by kernel_rfl, by kernel_rfl, fun _ h => h⟩ _ rfl (fun _ => rfl) rfl rfl (fun L a w R hw hm hmk hf => ?_)
      have e0 : a.eval (.tmp 0) = (.slice sa n c : Value) := (hf 0 (by decide +kernel)).old (by kernel_rfl)
      simp only [Act.eval, Array.getD_eq_getD_getElem?] at e0
      simp [execOp, resolve, invoke, builtin, go_sem, e0]
    · refine Fine2.run ⟨_, rfl, by kernel_rfl, by kernel_rfl, fun _ h => h⟩ _ rfl (fun _ => rfl) rfl rfl (fun L a w R hw hm hmk hf => ?_)
      have e1 : a.eval (.tmp 1) = (.slice sb n' c' : Value) := (hf 1 (by decide +kernel)).old (by kernel_rfl)
      simp only [Act.eval, Array.getD_eq_getD_getElem?] at e1
      simp [execOp, resolve, invoke, builtin, go_sem, e1]
    · refine Fine2.open ⟨_, rfl, by kernel_rfl, by kernel_rfl, fun _ h => h⟩ (fun L a w R hL hw hm hmk hf => ?_)
      rw [eaten_none rfl, emp_sep] at hm
      have e40 : a.eval (.tmp 40) = (.slice sa n c : Value) := (hf 40 (by decide +kernel)).new 13 (by kernel_rfl) (by kernel_rfl)
      have e41 : a.eval (.tmp 41) = (.slice sb n' c' : Value) := (hf 41 (by decide +kernel)).new 14 (by kernel_rfl) (by kernel_rfl)
      simp only [Act.eval, Array.getD_eq_getD_getElem?] at e40 e41
      refine ⟨.slice (some ⟨w.heap.size, 0, none⟩) 3 3, w.alloc (.cells #[(.slice sa n c : Value), (.slice none 0 0 : Value), (.slice sb n' c' : Value)] 22), ?_, ⟨_, rfl⟩, ?_⟩
      · simp [execOp, resolve, invoke, builtin, go_sem, e40, e41]
      · have hn := hm.alloc [(.slice sa n c : Value), (.slice none 0 0 : Value), (.slice sb n' c' : Value)] 22
        exact (Mem.blkB.2 ⟨_, rfl, hn⟩ : Mem W _ (blkB 22 3 [(.slice sa n c : Value), (.slice none 0 0 : Value), (.slice sb n' c' : Value)] _ * _)).p1
    · refine .inl ⟨⟨_, rfl, by kernel_rfl, by kernel_rfl, fun _ h => h⟩, fun L a w Kq R hL hw hm hmk hf hK => ?_⟩
      rw [eaten_none rfl, emp_sep] at hm
      obtain ⟨R', rfl⟩ := hmk [false, false, true, false, false, false] (by kernel_rfl)
      have hm' : Mem W w (_ * (_ * R')) := hm
      obtain ⟨g, y, m1⟩ := Mem.blkB.1 hm'.p1
      have e42 : a.eval (.tmp 42) = .slice (some ⟨g, 0, none⟩) 3 3 := y
      simp only [Act.eval, Array.getD_eq_getD_getElem?] at e42
      unfold Oper.wp
      rw [show (execOp a.eval _).run Tryd.prog w = .ok (.enter 8 #[.slice (some ⟨g, 0, none⟩) 3 3]) w from by simp [execOp, resolve, invoke, go_sem, e42]]
      refine (sum_any _ _ _ [l, [], r] w (HT.out w hm.1) (SlL.of_blk (ls := [l, [], r]) m1.blk.1 (And.intro ⟨_, _, _, rfl, HA.out.ext hm.1⟩ (And.intro ⟨_, _, _, rfl, Sl.nil' w⟩ (And.intro ⟨_, _, _, rfl, HB.out.ext hm.1⟩ trivial))) 3 rfl (by omega)) (by omega)).mono ?_
      rintro e w' ⟨rfl, rfl⟩
      rw [show ([l, [], r] : List (List UInt8)).flatten = l ++ r by simp]
      exact hK _ _ rfl (by show Mem W w (_ * (emp * _)); rw [emp_sep]; exact hm)
    · refine Fine2.run ⟨_, rfl, by kernel_rfl, by kernel_rfl, fun _ h => h⟩ _ rfl (fun _ => rfl) rfl rfl (fun L a w R hw hm hmk hf => ?_)
      have e0 : a.eval (.tmp 0) = (.slice sa n c : Value) := (hf 0 (by decide +kernel)).old (by kernel_rfl)
      simp only [Act.eval, Array.getD_eq_getD_getElem?] at e0
      simp [execOp, resolve, invoke, builtin, go_sem, e0]
    · refine Fine2.open ⟨_, rfl, by kernel_rfl, by kernel_rfl, fun _ h => h⟩ (fun L a w R hL hw hm hmk hf => ?_)
      rw [eaten_none rfl, emp_sep] at hm
      have e44 : a.eval (.tmp 44) = (.slice sa n c : Value) := (hf 44 (by decide +kernel)).new 17 (by kernel_rfl) (by kernel_rfl)
      have e0 : a.eval (.const (.slice none 0 0)) = .slice none 0 0 := rfl
      have hA := HA.out.ext hm.1
      have hr0 : Mem W w (row 5 1 none 0 0 [] * (emp * R)) := Mem.row_none.2 ⟨rfl, rfl, rfl, hm⟩
      obtain ⟨p, q, w', hr, hd, -, -⟩ := hr0.append (P := Tryd.prog) 22 22 Tryd.underlying22 hi8 hz8 hs8 hb8 rfl (by omega) (by rw [byts_length, HL.out]; omega) (news_sl hA) (news_nil hA) (byts_oneCell _) (by omega) (by omega)
      rw [Nat.zero_add, List.nil_append] at hd
      rw [Nat.zero_add] at hr
      refine ⟨.slice p n q, w', ?_, ⟨p, q, rfl⟩, (Mem.rowB.2 ⟨p, q, rfl, hd.duo_row⟩ : Mem W w' (rowB 5 n (byts l) _ * _)).p1⟩
      simp [execOp, resolve, invoke, builtin, e0, e44, hr, Result.andThen]
    · refine Fine2.run ⟨_, rfl, by kernel_rfl, by kernel_rfl, fun _ h => h⟩ _ rfl (fun _ => rfl) rfl rfl (fun L a w R hw hm hmk hf => ?_)
      have e1 : a.eval (.tmp 1) = (.slice sb n' c' : Value) := (hf 1 (by decide +kernel)).old (by kernel_rfl)
      simp only [Act.eval, Array.getD_eq_getD_getElem?] at e1
      simp [execOp, resolve, invoke, builtin, go_sem, e1]
    · refine Fine2.open ⟨_, rfl, by kernel_rfl, by kernel_rfl, fun _ h => h⟩ (fun L a w R hL hw hm hmk hf => ?_)
      have hm' : Mem W w (emp * ((emp * (emp * (emp * (rowB 5 n (byts l) (a.eval (.tmp 45)) * (emp * (emp * emp)))))) * R)) := hm
      rw [emp_sep, emp_sep, emp_sep, emp_sep, emp_sep, emp_sep, sep_emp] at hm'
      obtain ⟨p, q, e45, m1⟩ := Mem.rowB.1 hm'
      have e46 : a.eval (.tmp 46) = (.slice sb n' c' : Value) := (hf 46 (by decide +kernel)).new 19 (by kernel_rfl) (by kernel_rfl)
      have e45 : a.eval (.tmp 45) = .slice p n q := e45
      have hA := HB.out.ext hm.1
      obtain ⟨p', q', w', hr, hd, -, -⟩ := m1.append (P := Tryd.prog) 22 22 Tryd.underlying22 hi8 hz8 hs8 hb8 rfl (by omega) (by rw [byts_length, HR.out]; omega) (news_sl hA) (news_nil hA) (byts_oneCell _) (by omega) (by omega)
      rw [← byts_append] at hd
      refine ⟨.slice p' (n + n') q', w', ?_, ⟨p', q', rfl⟩, ?_⟩
      · simp [execOp, resolve, invoke, builtin, e45, e46, hr, Result.andThen]
      · show Mem W w' (emp * (rowB 5 (n + n') (byts (l ++ r)) _ * R))
        rw [emp_sep]
        exact Mem.rowB.2 ⟨p', q', rfl, hd.duo_row⟩
    · refine Fine2.open ⟨_, rfl, by kernel_rfl, by kernel_rfl, fun _ h => h⟩ (fun L a w R hL hw hm hmk hf => ?_)
      have hm' : Mem W w (emp * ((emp * (emp * (emp * (emp * (rowB 5 (n + n') (byts (l ++ r)) (a.eval (.tmp 47)) * (emp * emp)))))) * R)) := hm
      rw [emp_sep, emp_sep, emp_sep, emp_sep, emp_sep, emp_sep, sep_emp] at hm'
      obtain ⟨p, q, e47, m1⟩ := Mem.rowB.1 hm'
      simp only [Act.eval, Array.getD_eq_getD_getElem?] at e47
      refine ⟨.slice (some ⟨w.heap.size, 0, none⟩) 1 1, w.alloc (.cells #[.slice p (n + n') q] 22), ?_, ⟨_, rfl⟩, ?_⟩
      · simp [execOp, resolve, invoke, builtin, go_sem, e47]
      · have hn := m1.alloc [.slice p (n + n') q] 22
        show Mem W _ (emp * (ex (fun x : Option Addr × Nat => blkB 22 1 [.slice x.1 (n + n') x.2] _ * row 5 1 x.1 (n + n') x.2 (byts (l ++ r))) * R))
        rw [emp_sep]
        exact Mem.exl.2 ⟨(p, q), by rw [sep_assoc]; exact Mem.blkB.2 ⟨_, rfl, hn⟩⟩
    · refine .inl ⟨⟨_, rfl, by kernel_rfl, by kernel_rfl, fun _ h => h⟩, fun L a w Kq R hL hw hm hmk hf hK => ?_⟩
      rw [eaten_none rfl, emp_sep] at hm
      obtain ⟨R', rfl⟩ := hmk [false, false, false, false, false, true] (by kernel_rfl)
      have hm' : Mem W w (_ * (_ * R')) := hm
      obtain ⟨⟨p, q⟩, m0⟩ := Mem.exl.1 hm'.p1
      rw [sep_assoc] at m0
      obtain ⟨g, y, m1⟩ := Mem.blkB.1 m0
      have e48 : a.eval (.tmp 48) = .slice (some ⟨g, 0, none⟩) 1 1 := y
      simp only [Act.eval, Array.getD_eq_getD_getElem?] at e48
      unfold Oper.wp
      rw [show (execOp a.eval _).run Tryd.prog w = .ok (.enter 8 #[.slice (some ⟨g, 0, none⟩) 1 1]) w from by simp [execOp, resolve, invoke, go_sem, e48]]
      refine (sum_any _ _ _ [l ++ r] w (HT.out w hm.1) (SlL.of_blk (ls := [l ++ r]) m1.blk.1 (And.intro ⟨_, _, _, rfl, m1.p1.row_sl⟩ trivial) 1 rfl (by omega)) (by omega)).mono ?_
      rintro e w' ⟨rfl, rfl⟩
      rw [show ([l ++ r] : List (List UInt8)).flatten = l ++ r by simp]
      exact hK _ _ rfl (by show Mem W w (_ * (emp * _)); rw [emp_sep]; exact hm)
    · refine Fine2.run ⟨_, rfl, by kernel_rfl, by kernel_rfl, fun _ h => h⟩ _ rfl (fun _ => rfl) rfl rfl (fun L a w R hw hm hmk hf => ?_)
      have e43 : a.eval (.tmp 43) = (.int .u32 ((crc (l ++ r)).toNat : Int) : Value) := (hf 43 (by decide +kernel)).new 16 (by kernel_rfl) (by kernel_rfl)
      have e49 : a.eval (.tmp 49) = (.int .u32 ((crc (l ++ r)).toNat : Int) : Value) := (hf 49 (by decide +kernel)).new 22 (by kernel_rfl) (by kernel_rfl)
      simp only [Act.eval, Array.getD_eq_getD_getElem?] at e43 e49
      simp [execOp, resolve, invoke, builtin, go_sem, e43, e49]
    · refine Fine2.run trivial _ rfl (fun _ => rfl) rfl rfl (fun L a w R hw hm hmk hf => ?_)
      have e39 : a.eval (.tmp 39) = (.bool false : Value) := (hf 39 (by decide +kernel)).new 12 (by kernel_rfl) (by kernel_rfl)
      have e50 : a.eval (.tmp 50) = (.bool false : Value) := (hf 50 (by decide +kernel)).new 23 (by kernel_rfl) (by kernel_rfl)
      simp only [Act.eval, Array.getD_eq_getD_getElem?] at e39 e50
      simp [execOp, resolve, invoke, builtin, go_sem, e39, e50]
  · intro u w9 hu hm9
    have hL : u 51 = .bool false := hu 51 24 rfl
    have hm9' : Mem W w9 emp := ⟨hm9.1, _, rfl, fun k e cs h => by cases h⟩
    have HM9 := hid hm9'
    simp only [putAll]
    rw [hL]
    clear hm9 hm9' hu hL HM0 hi8 hz8 hs8 hb8
    go_simp
    go_wp2_with fail
    all_goals
      obtain ⟨m, hmn, hmn', hme⟩ : ∃ m : Nat, m ≤ n ∧ m ≤ n' ∧ m = min n n' := ⟨min n n', by omega, by omega, rfl⟩
      first
      | rw [show (n' : Int) = (m : Int) by omega]
      | rw [show (n : Int) = (m : Int) by omega]
      have mc : m ≤ c := by omega
      have mc' : m ≤ c' := by omega
      have nmc : ¬ c < m := by omega
      have nmc' : ¬ c' < m := by omega
      have HMK : Hid (∀ w : World, (Instr.makeSlice 22 (.int .i64 (m : Int)) (.int .i64 (m : Int))).run Tryd.prog w = .ok (.slice (some ⟨w.heap.size, 0, none⟩) m m) (w.alloc (.cells (byts (zrs m)).toArray 5))) := by
        show ∀ w, _
        intro w
        have h1 := run_make_bytes (P := Tryd.prog) 22 5 Tryd.underlying22 u8info .i64 .i64 (m : Int) (by omega) (by omega) w
        rw [Int.toNat_natCast] at h1
        rw [h1, show List.replicate m (Value.int .u8 0) = byts (zrs m) by simp [zrs, byts, byt]]
      clear hme
      refine region_mem (by kernel_rfl) (V := fun i x => match i with | 0 => x = (.slice sa n c : Value) | 1 => x = (.int .i64 (m : Int) : Value) | 2 => x = (.slice sa m c : Value) | 3 => x = (.slice sb n' c' : Value) | 4 => x = (.int .i64 (m : Int) : Value) | 5 => x = (.slice sb m c' : Value) | 6 => x = (.int .i64 (m : Int) : Value) | 7 => ∃ g, x = (.slice (some ⟨g, 0, none⟩) m m : Value) | 8 => x = (.slice sa m c : Value) | 9 => x = (.slice sb m c' : Value) | 10 => ∃ g, x = (.slice (some ⟨g, 0, none⟩) m m : Value) | _ => True) (A := (fun _ => emp)) (Bs := [(7, some 10, blkB 5 m (byts (zrs m))), (10, none, blkB 5 m (byts (zrs m)))]) HM9.out (fun _ _ _ => rfl) (show ([7, 10] : List Nat).Nodup by decide) (by kernel_rfl) (by kernel_rfl) ?_ ?_
      · refine ⟨?_, ?_, ?_, ?_, ?_, ?_, ?_, ?_, ?_, ?_, ?_, trivial⟩
        · refine Fine2.run trivial _ rfl (fun _ => rfl) rfl rfl (fun L a w R hw hm hmk hf => ?_)
          have e0 : a.eval (.tmp 0) = (.slice sa n c : Value) := (hf 0 (by decide +kernel)).old (by kernel_rfl)
          simp only [Act.eval, Array.getD_eq_getD_getElem?] at e0
          simp [execOp, resolve, invoke, builtin, go_sem, e0]
        · refine Fine2.run trivial _ rfl (fun _ => rfl) rfl rfl (fun L a w R hw hm hmk hf => ?_)
          have e8 : a.eval (.tmp 8) = (.int .i64 (m : Int) : Value) := (hf 8 (by decide +kernel)).old (by kernel_rfl)
          simp only [Act.eval, Array.getD_eq_getD_getElem?] at e8
          simp [execOp, resolve, invoke, builtin, go_sem, e8]
        · refine Fine2.run trivial _ rfl (fun _ => rfl) rfl rfl (fun L a w R hw hm hmk hf => ?_)
          have e57 : a.eval (.tmp 57) = (.slice sa n c : Value) := (hf 57 (by decide +kernel)).new 0 (by kernel_rfl) (by kernel_rfl)
          have e58 : a.eval (.tmp 58) = (.int .i64 (m : Int) : Value) := (hf 58 (by decide +kernel)).new 1 (by kernel_rfl) (by kernel_rfl)
          simp only [Act.eval, Array.getD_eq_getD_getElem?] at e57 e58
          simp [execOp, resolve, invoke, builtin, go_sem, e57, e58, nmc, mc]
        · refine Fine2.run trivial _ rfl (fun _ => rfl) rfl rfl (fun L a w R hw hm hmk hf => ?_)
          have e1 : a.eval (.tmp 1) = (.slice sb n' c' : Value) := (hf 1 (by decide +kernel)).old (by kernel_rfl)
          simp only [Act.eval, Array.getD_eq_getD_getElem?] at e1
          simp [execOp, resolve, invoke, builtin, go_sem, e1]
        · refine Fine2.run trivial _ rfl (fun _ => rfl) rfl rfl (fun L a w R hw hm hmk hf => ?_)
          have e8 : a.eval (.tmp 8) = (.int .i64 (m : Int) : Value) := (hf 8 (by decide +kernel)).old (by kernel_rfl)
          simp only [Act.eval, Array.getD_eq_getD_getElem?] at e8
          simp [execOp, resolve, invoke, builtin, go_sem, e8]
        · refine Fine2.run trivial _ rfl (fun _ => rfl) rfl rfl (fun L a w R hw hm hmk hf => ?_)
          have e60 : a.eval (.tmp 60) = (.slice sb n' c' : Value) := (hf 60 (by decide +kernel)).new 3 (by kernel_rfl) (by kernel_rfl)
          have e61 : a.eval (.tmp 61) = (.int .i64 (m : Int) : Value) := (hf 61 (by decide +kernel)).new 4 (by kernel_rfl) (by kernel_rfl)
          simp only [Act.eval, Array.getD_eq_getD_getElem?] at e60 e61
          simp [execOp, resolve, invoke, builtin, go_sem, e60, e61, nmc', mc']
        · refine Fine2.run trivial _ rfl (fun _ => rfl) rfl rfl (fun L a w R hw hm hmk hf => ?_)
          have e8 : a.eval (.tmp 8) = (.int .i64 (m : Int) : Value) := (hf 8 (by decide +kernel)).old (by kernel_rfl)
          simp only [Act.eval, Array.getD_eq_getD_getElem?] at e8
          simp [execOp, resolve, invoke, builtin, go_sem, e8]
        · refine Fine2.open trivial (fun L a w R hL hw hm hmk hf => ?_)
          rw [eaten_none rfl, emp_sep] at hm
          have e63 : a.eval (.tmp 63) = (.int .i64 (m : Int) : Value) := (hf 63 (by decide +kernel)).new 6 (by kernel_rfl) (by kernel_rfl)
          simp only [Act.eval, Array.getD_eq_getD_getElem?] at e63
          refine ⟨.slice (some ⟨w.heap.size, 0, none⟩) m m, w.alloc (.cells (byts (zrs m)).toArray 5), ?_, ⟨_, rfl⟩, ?_⟩
          · simp [execOp, resolve, invoke, builtin, go_sem, e63, HMK.out]
          · exact (Mem.blkB.2 ⟨_, rfl, hm.alloc (byts (zrs m)) 5⟩ : Mem W _ (blkB 5 m (byts (zrs m)) _ * _)).p1
        · refine Fine2.run trivial _ rfl (fun _ => rfl) rfl rfl (fun L a w R hw hm hmk hf => ?_)
          have e59 : a.eval (.tmp 59) = (.slice sa m c : Value) := (hf 59 (by decide +kernel)).new 2 (by kernel_rfl) (by kernel_rfl)
          simp only [Act.eval, Array.getD_eq_getD_getElem?] at e59
          simp [execOp, resolve, invoke, builtin, go_sem, e59]
        · refine Fine2.run trivial _ rfl (fun _ => rfl) rfl rfl (fun L a w R hw hm hmk hf => ?_)
          have e62 : a.eval (.tmp 62) = (.slice sb m c' : Value) := (hf 62 (by decide +kernel)).new 5 (by kernel_rfl) (by kernel_rfl)
          simp only [Act.eval, Array.getD_eq_getD_getElem?] at e62
          simp [execOp, resolve, invoke, builtin, go_sem, e62]
        · refine Fine2.open trivial (fun L a w R hL hw hm hmk hf => ?_)
          have hm' : Mem W w (emp * ((blkB 5 m (byts (zrs m)) (a.eval (.tmp 64)) * (emp * emp)) * R)) := hm
          rw [sep_emp, sep_emp] at hm'
          obtain ⟨g, e64, -⟩ := Mem.blkB.1 hm'.right
          refine ⟨a.eval (.tmp 64), w, by simp [execOp], ⟨g, e64⟩, hm'⟩
      · intro u w9 hu hm9
        obtain ⟨g, hL, hm9⟩ := Mem.blkB.1 (hm9 : Mem W w9 (emp * (emp * (blkB 5 m (byts (zrs m)) (u 11) * emp)))).right.right
        have hL : u 11 = .slice (some ⟨g, 0, none⟩) m m := hL
        have h9 : u 9 = .slice sa m c := hu 9 8 rfl
        have h10 : u 10 = .slice sb m c' := hu 10 9 rfl
        have HM8 := hid hm9
        simp only [putAll]
        rw [hL, h9, h10]
        clear hm9 hu hL h9 h10 HM9
        go_simp
        go_wp2_with fail
        go_loopw [12] (fun i wr => ∃ k : Nat, k ≤ m ∧ i = .int .i64 k ∧ Mem W wr (pts g 5 (byts ((xorL (l.take m) (r.take m)).take k ++ zrs (m - k))) * emp)) (fun i _ => m - (intOf i).toNat)
        case atStart => exact ⟨0, by omega, rfl, by rw [List.take_zero, List.nil_append, Nat.sub_zero]; exact HM8.out⟩
        case round =>
          obtain ⟨k, hk, rfl, hm⟩ := hrel
          clear HM8
          by_cases hlt : k < m
          · have hlx : (xorL (l.take m) (r.take m)).length = m := by simp [xorL, HL.out, HR.out]; omega
            obtain ⟨b, o, rfl⟩ := HA.out.addr (by omega)
            obtain ⟨b', o', rfl⟩ := HB.out.addr (by omega)
            have ha := HA.out.at k (by omega)
            have hb := HB.out.at k (by omega)
            have h3 : (byts l)[k]'(by rw [byts_length, HL.out]; omega) = .int .u8 (((l[k]'(by rw [HL.out]; omega)).toNat : Nat) : Int) := by simp [byts, byt]
            have h4 : (byts r)[k]'(by rw [byts_length, HR.out]; omega) = .int .u8 (((r[k]'(by rw [HR.out]; omega)).toNat : Nat) : Int) := by simp [byts, byt]
            rw [h3] at ha
            rw [h4] at hb
            have hset : (byts ((xorL (l.take m) (r.take m)).take k ++ zrs (m - k))).set k (.int .u8 (((l[k]'(by rw [HL.out]; omega)) ^^^ (r[k]'(by rw [HR.out]; omega))).toNat : Int)) = byts ((xorL (l.take m) (r.take m)).take (k + 1) ++ zrs (m - (k + 1))) := by
              have e1 : zrs (m - k) = 0 :: zrs (m - (k + 1)) := by unfold zrs; rw [show m - k = (m - (k + 1)) + 1 by omega, List.replicate_succ]
              rw [e1, List.take_succ_eq_append_getElem (by omega), byts_append, byts_append, List.set_append_right _ _ (by simp [byts]; omega)]
              have e2 : k - (byts ((xorL (l.take m) (r.take m)).take k)).length = 0 := by simp [byts]; omega
              rw [e2]
              simp [byts, byt, xorL]
            have hxor : bits .xor .u8 (((l[k]'(by rw [HL.out]; omega)).toNat : Nat) : Int) (((r[k]'(by rw [HR.out]; omega)).toNat : Nat) : Int) = ((((l[k]'(by rw [HL.out]; omega)) ^^^ (r[k]'(by rw [HR.out]; omega))).toNat : Nat) : Int) := by rw [xor_u8n _ _ (UInt8.toNat_lt _) (UInt8.toNat_lt _), UInt8.toNat_xor]
            generalize (l[k]'(by rw [HL.out]; omega)) = cx at *
            generalize (r[k]'(by rw [HR.out]; omega)) = cy at *
            rw [UInt8.toNat_xor] at hset hxor
            have HSET := hid hset
            have HCA : Hid (∀ w, Fr W.heap.size [] W w → w.cell? ⟨b, o + k, none⟩ = some (.int .u8 (cx.toNat : Int))) := fun w hf => hf.cell_ext ha
            have HCB : Hid (∀ w, Fr W.heap.size [] W w → w.cell? ⟨b', o' + k, none⟩ = some (.int .u8 (cy.toNat : Int))) := fun w hf => hf.cell_ext hb
            have HM := hid hm
            have km : (k : Int) < (m : Int) := by omega
            have kmn : k ≤ c := by omega
            have kmc : k ≤ c' := by omega
            clear hset h3 h4 ha hb hm hlx
            go_wp2_with fail
            refine region_mem (by kernel_rfl) (V := fun i x => match i with | 0 => x = (.slice (some ⟨g, 0, none⟩) m m : Value) | 1 => x = (.int .i64 (k : Int) : Value) | 2 => x = (.slice (some ⟨b, o, none⟩) m c : Value) | 3 => x = (.int .i64 (k : Int) : Value) | 4 => x = (.pointer (some ⟨b, o + k, none⟩) : Value) | 5 => x = (.int .u8 (cx.toNat : Int) : Value) | 6 => x = (.slice (some ⟨b', o', none⟩) m c' : Value) | 7 => x = (.int .i64 (k : Int) : Value) | 8 => x = (.pointer (some ⟨b', o' + k, none⟩) : Value) | 9 => x = (.int .u8 (cy.toNat : Int) : Value) | 10 => x = (.int .u8 ((cx.toNat ^^^ cy.toNat : Nat) : Int) : Value) | 11 => x = (.pointer (some ⟨g, k, none⟩) : Value) | 12 => x = undef | _ => True) (A := (fun L => (if L 12 then pts g 5 (byts ((xorL (l.take m) (r.take m)).take (k + 1) ++ zrs (m - (k + 1)))) else pts g 5 (byts ((xorL (l.take m) (r.take m)).take k ++ zrs (m - k)))) * emp)) (Bs := []) HM.out (fun L L' h => by show (if L 12 then _ else _) * _ = (if L' 12 then _ else _) * _; rw [h 12 (by decide)]) (show ([] : List Nat).Nodup by decide) (by kernel_rfl) (by kernel_rfl) ?_ ?_
            · refine ⟨?_, ?_, ?_, ?_, ?_, ?_, ?_, ?_, ?_, ?_, ?_, ?_, ?_, trivial⟩
              · refine Fine2.run trivial _ rfl (fun _ => rfl) rfl rfl (fun L a w R hw hm hmk hf => ?_)
                have e11 : a.eval (.tmp 11) = (.slice (some ⟨g, 0, none⟩) m m : Value) := (hf 11 (by decide +kernel)).old (by kernel_rfl)
                simp only [Act.eval, Array.getD_eq_getD_getElem?] at e11
                simp [execOp, resolve, invoke, builtin, go_sem, e11]
              · refine Fine2.run trivial _ rfl (fun _ => rfl) rfl rfl (fun L a w R hw hm hmk hf => ?_)
                have e12 : a.eval (.tmp 12) = (.int .i64 (k : Int) : Value) := (hf 12 (by decide +kernel)).old (by kernel_rfl)
                simp only [Act.eval, Array.getD_eq_getD_getElem?] at e12
                simp [execOp, resolve, invoke, builtin, go_sem, e12]
              · refine Fine2.run trivial _ rfl (fun _ => rfl) rfl rfl (fun L a w R hw hm hmk hf => ?_)
                have e9 : a.eval (.tmp 9) = (.slice (some ⟨b, o, none⟩) m c : Value) := (hf 9 (by decide +kernel)).old (by kernel_rfl)
                simp only [Act.eval, Array.getD_eq_getD_getElem?] at e9
                simp [execOp, resolve, invoke, builtin, go_sem, e9]
              · refine Fine2.run trivial _ rfl (fun _ => rfl) rfl rfl (fun L a w R hw hm hmk hf => ?_)
                have e12 : a.eval (.tmp 12) = (.int .i64 (k : Int) : Value) := (hf 12 (by decide +kernel)).old (by kernel_rfl)
                simp only [Act.eval, Array.getD_eq_getD_getElem?] at e12
                simp [execOp, resolve, invoke, builtin, go_sem, e12]
              · refine Fine2.run trivial _ rfl (fun _ => rfl) rfl rfl (fun L a w R hw hm hmk hf => ?_)
                have e72 : a.eval (.tmp 72) = (.slice (some ⟨b, o, none⟩) m c : Value) := (hf 72 (by decide +kernel)).new 2 (by kernel_rfl) (by kernel_rfl)
                have e73 : a.eval (.tmp 73) = (.int .i64 (k : Int) : Value) := (hf 73 (by decide +kernel)).new 3 (by kernel_rfl) (by kernel_rfl)
                simp only [Act.eval, Array.getD_eq_getD_getElem?] at e72 e73
                simp [execOp, resolve, invoke, builtin, go_sem, e72, e73, km, kmn]
              · refine Fine2.run trivial _ rfl (fun _ => rfl) rfl rfl (fun L a w R hw hm hmk hf => ?_)
                have e74 : a.eval (.tmp 74) = (.pointer (some ⟨b, o + k, none⟩) : Value) := (hf 74 (by decide +kernel)).new 4 (by kernel_rfl) (by kernel_rfl)
                simp only [Act.eval, Array.getD_eq_getD_getElem?] at e74
                have hc := HCA.out w hm.1
                simp [execOp, resolve, invoke, builtin, go_sem, e74, hc]
              · refine Fine2.run trivial _ rfl (fun _ => rfl) rfl rfl (fun L a w R hw hm hmk hf => ?_)
                have e10 : a.eval (.tmp 10) = (.slice (some ⟨b', o', none⟩) m c' : Value) := (hf 10 (by decide +kernel)).old (by kernel_rfl)
                simp only [Act.eval, Array.getD_eq_getD_getElem?] at e10
                simp [execOp, resolve, invoke, builtin, go_sem, e10]
              · refine Fine2.run trivial _ rfl (fun _ => rfl) rfl rfl (fun L a w R hw hm hmk hf => ?_)
                have e12 : a.eval (.tmp 12) = (.int .i64 (k : Int) : Value) := (hf 12 (by decide +kernel)).old (by kernel_rfl)
                simp only [Act.eval, Array.getD_eq_getD_getElem?] at e12
                simp [execOp, resolve, invoke, builtin, go_sem, e12]
              · refine Fine2.run trivial _ rfl (fun _ => rfl) rfl rfl (fun L a w R hw hm hmk hf => ?_)
                have e76 : a.eval (.tmp 76) = (.slice (some ⟨b', o', none⟩) m c' : Value) := (hf 76 (by decide +kernel)).new 6 (by kernel_rfl) (by kernel_rfl)
                have e77 : a.eval (.tmp 77) = (.int .i64 (k : Int) : Value) := (hf 77 (by decide +kernel)).new 7 (by kernel_rfl) (by kernel_rfl)
                simp only [Act.eval, Array.getD_eq_getD_getElem?] at e76 e77
                simp [execOp, resolve, invoke, builtin, go_sem, e76, e77, km, kmc]
              · refine Fine2.run trivial _ rfl (fun _ => rfl) rfl rfl (fun L a w R hw hm hmk hf => ?_)
                have e78 : a.eval (.tmp 78) = (.pointer (some ⟨b', o' + k, none⟩) : Value) := (hf 78 (by decide +kernel)).new 8 (by kernel_rfl) (by kernel_rfl)
                simp only [Act.eval, Array.getD_eq_getD_getElem?] at e78
                have hc := HCB.out w hm.1
                simp [execOp, resolve, invoke, builtin, go_sem, e78, hc]
              · refine Fine2.run trivial _ rfl (fun _ => rfl) rfl rfl (fun L a w R hw hm hmk hf => ?_)
                have e75 : a.eval (.tmp 75) = (.int .u8 (cx.toNat : Int) : Value) := (hf 75 (by decide +kernel)).new 5 (by kernel_rfl) (by kernel_rfl)
                have e79 : a.eval (.tmp 79) = (.int .u8 (cy.toNat : Int) : Value) := (hf 79 (by decide +kernel)).new 9 (by kernel_rfl) (by kernel_rfl)
                simp only [Act.eval, Array.getD_eq_getD_getElem?] at e75 e79
                simp [execOp, resolve, invoke, builtin, go_sem, e75, e79, hxor]
              · refine Fine2.run trivial _ rfl (fun _ => rfl) rfl rfl (fun L a w R hw hm hmk hf => ?_)
                have e70 : a.eval (.tmp 70) = (.slice (some ⟨g, 0, none⟩) m m : Value) := (hf 70 (by decide +kernel)).new 0 (by kernel_rfl) (by kernel_rfl)
                have e71 : a.eval (.tmp 71) = (.int .i64 (k : Int) : Value) := (hf 71 (by decide +kernel)).new 1 (by kernel_rfl) (by kernel_rfl)
                simp only [Act.eval, Array.getD_eq_getD_getElem?] at e70 e71
                simp [execOp, resolve, invoke, builtin, go_sem, e70, e71, km]
              · refine Fine2.store trivial rfl (fun L a w R hL hw hm hmk hf => ?_)
                rw [eaten_none rfl, emp_sep] at hm
                have e80 : a.eval (.tmp 80) = (.int .u8 ((cx.toNat ^^^ cy.toNat : Nat) : Int) : Value) := (hf 80 (by decide +kernel)).new 10 (by kernel_rfl) (by kernel_rfl)
                have e81 : a.eval (.tmp 81) = (.pointer (some ⟨g, k, none⟩) : Value) := (hf 81 (by decide +kernel)).new 11 (by kernel_rfl) (by kernel_rfl)
                simp only [Act.eval, Array.getD_eq_getD_getElem?] at e80 e81
                have hm : Mem W w (_ * R) := hm
                rw [hL] at hm
                have hm : Mem W w (pts g 5 (byts ((xorL (l.take m) (r.take m)).take k ++ zrs (m - k))) * emp * R) := hm
                rw [sep_emp] at hm
                have hfz := hm.frozen k
                have hcl := hm.cell k
                have hln : k < (byts ((xorL (l.take m) (r.take m)).take k ++ zrs (m - k))).length := by simp [byts, zrs, xorL, HL.out, HR.out]; omega
                rw [List.getElem?_eq_getElem hln] at hcl
                refine ⟨w.setCell ⟨g, k, none⟩ (.int .u8 ((cx.toNat ^^^ cy.toNat : Nat) : Int)), ?_, ?_⟩
                · simp [execOp, resolve, invoke, builtin, go_sem, e80, e81, hfz, hcl]
                · have hs := hm.setCell k (.int .u8 ((cx.toNat ^^^ cy.toNat : Nat) : Int))
                  rw [HSET.out] at hs
                  show Mem W _ ((if doneSet L 12 12 then _ else _) * emp * (emp * R))
                  rw [show doneSet L 12 12 = true from rfl, emp_sep, sep_emp]
                  exact hs
            · intro u w9 hu hm9
              have HM := hid (hm9 : Mem W w9 (pts g 5 (byts ((xorL (l.take m) (r.take m)).take (k + 1) ++ zrs (m - (k + 1)))) * emp * emp))
              simp only [putAll]
              clear hm9 hu
              go_simp
              go_wp2_with fail
              go_roundw
              case rel => exact ⟨k + 1, by omega, by go_num, by have := HM.out; rw [sep_emp] at this; exact this⟩
              case measure => simp [intOf] <;> omega
          · obtain rfl : k = m := by omega
            have e0 : (xorL (l.take k) (r.take k)).take k ++ zrs (k - k) = xorL (l.take k) (r.take k) := by
              rw [Nat.sub_self, show zrs 0 = [] from rfl, List.append_nil, List.take_of_length_le (by simp [xorL]; omega)]
            rw [e0, sep_emp] at hm
            have HXS : Hid ((xorL (l.take k) (r.take k)).length = k) := by show _ = _; simp [xorL, HL.out, HR.out]; omega
            have hcx := crc_xor (l.take k) (r.take k) (by simp [HL.out, HR.out]; omega)
            rw [show (l.take k).length = k by simp [HL.out]; omega] at hcx
            have hcx2 := congrArg BitVec.toNat hcx
            have hx1 := xor_u32 (crc (l.take k)) (crc (r.take k))
            have hx2 := xor_u32 (crc (l.take k) ^^^ crc (r.take k)) (crc (List.replicate k 0))
            rw [← hcx2, BitVec.toNat_xor] at hx2
            rw [BitVec.toNat_xor] at hx1
            have HSA : Hid (Sl W sa k c (byts (l.take k))) := by
              have h1 := HA.out.take k hmn
              rw [byts_take] at h1
              exact hid h1
            have HSB : Hid (Sl W sb k c' (byts (r.take k))) := by
              have h1 := HB.out.take k hmn'
              rw [byts_take] at h1
              exact hid h1
            obtain ⟨tp, HTP⟩ : ∃ tp, Hid ((crc (l.take k)).toNat = tp) := ⟨_, hid rfl⟩
            obtain ⟨tq, HTQ⟩ : ∃ tq, Hid ((crc (r.take k)).toNat = tq) := ⟨_, hid rfl⟩
            obtain ⟨tz, HTZ⟩ : ∃ tz, Hid ((crc (zrs k)).toNat = tz) := ⟨_, hid rfl⟩
            obtain ⟨tx, HTX⟩ : ∃ tx, Hid ((crc (xorL (l.take k) (r.take k))).toNat = tx) := ⟨_, hid rfl⟩
            rw [HTP.out, HTQ.out] at hx1 hx2
            rw [HTX.out, show (crc (List.replicate k 0)).toNat = tz from HTZ.out] at hx2
            have HM12 := hid hm
            clear hm e0 hcx hcx2
            go_wp2_with fail
            refine region_mem (by kernel_rfl) (V := fun i x => match i with | 0 => x = (.slice (some ⟨g, 0, none⟩) k k : Value) | 1 => ∃ g, x = (.slice (some ⟨g, 0, none⟩) 1 1 : Value) | 2 => x = (.int .u32 ((tx : Nat) : Int) : Value) | 3 => x = (.slice sa k c : Value) | 4 => ∃ g, x = (.slice (some ⟨g, 0, none⟩) 1 1 : Value) | 5 => x = (.int .u32 ((tp : Nat) : Int) : Value) | 6 => x = (.slice sb k c' : Value) | 7 => ∃ g, x = (.slice (some ⟨g, 0, none⟩) 1 1 : Value) | 8 => x = (.int .u32 ((tq : Nat) : Int) : Value) | 9 => x = (.int .u32 ((tp ^^^ tq : Nat) : Int) : Value) | 10 => x = (.int .i64 (k : Int) : Value) | 11 => ∃ g, x = (.slice (some ⟨g, 0, none⟩) k k : Value) | 12 => ∃ g, x = (.slice (some ⟨g, 0, none⟩) 1 1 : Value) | 13 => x = (.int .u32 ((tz : Nat) : Int) : Value) | 14 => x = (.int .u32 ((tx : Nat) : Int) : Value) | 15 => x = (.bool true : Value) | 16 => x = (.bool true : Value) | _ => True) (A := (fun _ => pts g 5 (byts (xorL (l.take k) (r.take k))))) (Bs := [(1, none, blkB 22 1 [(.slice (some ⟨g, 0, none⟩) k k : Value)]), (4, none, blkB 22 1 [(.slice sa k c : Value)]), (7, none, blkB 22 1 [(.slice sb k c' : Value)]), (11, some 12, blkB 5 k (byts (zrs k))), (12, none, (fun v => ex fun g2 : Nat => blkB 22 1 [.slice (some ⟨g2, 0, none⟩) k k] v * pts g2 5 (byts (zrs k))))]) HM12.out (fun _ _ _ => rfl) (show ([1, 4, 7, 11, 12] : List Nat).Nodup by decide) (by kernel_rfl) (by kernel_rfl) ?_ ?_
            · refine ⟨?_, ?_, ?_, ?_, ?_, ?_, ?_, ?_, ?_, ?_, ?_, ?_, ?_, ?_, ?_, ?_, ?_, trivial⟩
              · refine Fine2.run trivial _ rfl (fun _ => rfl) rfl rfl (fun L a w R hw hm hmk hf => ?_)
                have e11 : a.eval (.tmp 11) = (.slice (some ⟨g, 0, none⟩) k k : Value) := (hf 11 (by decide +kernel)).old (by kernel_rfl)
                simp only [Act.eval, Array.getD_eq_getD_getElem?] at e11
                simp [execOp, resolve, invoke, builtin, go_sem, e11]
              · refine Fine2.open trivial (fun L a w R hL hw hm hmk hf => ?_)
                rw [eaten_none rfl, emp_sep] at hm
                have e82 : a.eval (.tmp 82) = (.slice (some ⟨g, 0, none⟩) k k : Value) := (hf 82 (by decide +kernel)).new 0 (by kernel_rfl) (by kernel_rfl)
                simp only [Act.eval, Array.getD_eq_getD_getElem?] at e82
                refine ⟨.slice (some ⟨w.heap.size, 0, none⟩) 1 1, w.alloc (.cells #[(.slice (some ⟨g, 0, none⟩) k k : Value)] 22), ?_, ⟨_, rfl⟩, ?_⟩
                · simp [execOp, resolve, invoke, builtin, go_sem, e82]
                · have hn := hm.alloc [(.slice (some ⟨g, 0, none⟩) k k : Value)] 22
                  exact (Mem.blkB.2 ⟨_, rfl, hn⟩ : Mem W _ (blkB 22 1 [(.slice (some ⟨g, 0, none⟩) k k : Value)] _ * _)).p1
              · refine .inl ⟨trivial, fun L a w Kq R hL hw hm hmk hf hK => ?_⟩
                rw [eaten_none rfl, emp_sep] at hm
                obtain ⟨R', rfl⟩ := hmk [true, false, false, false, false] (by kernel_rfl)
                have hm' : Mem W w (_ * (_ * R')) := hm
                obtain ⟨g, y, m1⟩ := Mem.blkB.1 hm'.p1
                have e83 : a.eval (.tmp 83) = .slice (some ⟨g, 0, none⟩) 1 1 := y
                simp only [Act.eval, Array.getD_eq_getD_getElem?] at e83
                unfold Oper.wp
                rw [show (execOp a.eval _).run Tryd.prog w = .ok (.enter 8 #[.slice (some ⟨g, 0, none⟩) 1 1]) w from by simp [execOp, resolve, invoke, go_sem, e83]]
                refine (sum_any _ _ _ [xorL (l.take k) (r.take k)] w (HT.out w hm.1) (SlL.of_blk (ls := [xorL (l.take k) (r.take k)]) m1.blk.1 (And.intro ⟨_, _, _, rfl, hm'.blk.1.sl_all k (by rw [byts_length]; exact HXS.out) (by omega)⟩ trivial) 1 rfl (by omega)) (by omega)).mono ?_
                rintro e w' ⟨rfl, rfl⟩
                rw [show ([xorL (l.take k) (r.take k)] : List (List UInt8)).flatten = xorL (l.take k) (r.take k) by simp, HTX.out]
                exact hK _ _ rfl (by show Mem W w (_ * (emp * _)); rw [emp_sep]; exact hm)
              · refine Fine2.run trivial _ rfl (fun _ => rfl) rfl rfl (fun L a w R hw hm hmk hf => ?_)
                have e9 : a.eval (.tmp 9) = (.slice sa k c : Value) := (hf 9 (by decide +kernel)).old (by kernel_rfl)
                simp only [Act.eval, Array.getD_eq_getD_getElem?] at e9
                simp [execOp, resolve, invoke, builtin, go_sem, e9]
              · refine Fine2.open trivial (fun L a w R hL hw hm hmk hf => ?_)
                rw [eaten_none rfl, emp_sep] at hm
                have e85 : a.eval (.tmp 85) = (.slice sa k c : Value) := (hf 85 (by decide +kernel)).new 3 (by kernel_rfl) (by kernel_rfl)
                simp only [Act.eval, Array.getD_eq_getD_getElem?] at e85
                refine ⟨.slice (some ⟨w.heap.size, 0, none⟩) 1 1, w.alloc (.cells #[(.slice sa k c : Value)] 22), ?_, ⟨_, rfl⟩, ?_⟩
                · simp [execOp, resolve, invoke, builtin, go_sem, e85]
                · have hn := hm.alloc [(.slice sa k c : Value)] 22
                  exact (Mem.blkB.2 ⟨_, rfl, hn⟩ : Mem W _ (blkB 22 1 [(.slice sa k c : Value)] _ * _)).p1
              · refine .inl ⟨trivial, fun L a w Kq R hL hw hm hmk hf hK => ?_⟩
                rw [eaten_none rfl, emp_sep] at hm
                obtain ⟨R', rfl⟩ := hmk [false, true, false, false, false] (by kernel_rfl)
                have hm' : Mem W w (_ * (_ * R')) := hm
                obtain ⟨g, y, m1⟩ := Mem.blkB.1 hm'.p1
                have e86 : a.eval (.tmp 86) = .slice (some ⟨g, 0, none⟩) 1 1 := y
                simp only [Act.eval, Array.getD_eq_getD_getElem?] at e86
                unfold Oper.wp
                rw [show (execOp a.eval _).run Tryd.prog w = .ok (.enter 8 #[.slice (some ⟨g, 0, none⟩) 1 1]) w from by simp [execOp, resolve, invoke, go_sem, e86]]
                refine (sum_any _ _ _ [l.take k] w (HT.out w hm.1) (SlL.of_blk (ls := [l.take k]) m1.blk.1 (And.intro ⟨_, _, _, rfl, HSA.out.ext hm.1⟩ trivial) 1 rfl (by omega)) (by omega)).mono ?_
                rintro e w' ⟨rfl, rfl⟩
                rw [show ([l.take k] : List (List UInt8)).flatten = l.take k by simp, HTP.out]
                exact hK _ _ rfl (by show Mem W w (_ * (emp * _)); rw [emp_sep]; exact hm)
              · refine Fine2.run trivial _ rfl (fun _ => rfl) rfl rfl (fun L a w R hw hm hmk hf => ?_)
                have e10 : a.eval (.tmp 10) = (.slice sb k c' : Value) := (hf 10 (by decide +kernel)).old (by kernel_rfl)
                simp only [Act.eval, Array.getD_eq_getD_getElem?] at e10
                simp [execOp, resolve, invoke, builtin, go_sem, e10]
              · refine Fine2.open trivial (fun L a w R hL hw hm hmk hf => ?_)
                rw [eaten_none rfl, emp_sep] at hm
                have e88 : a.eval (.tmp 88) = (.slice sb k c' : Value) := (hf 88 (by decide +kernel)).new 6 (by kernel_rfl) (by kernel_rfl)
                simp only [Act.eval, Array.getD_eq_getD_getElem?] at e88
                refine ⟨.slice (some ⟨w.heap.size, 0, none⟩) 1 1, w.alloc (.cells #[(.slice sb k c' : Value)] 22), ?_, ⟨_, rfl⟩, ?_⟩
                · simp [execOp, resolve, invoke, builtin, go_sem, e88]
                · have hn := hm.alloc [(.slice sb k c' : Value)] 22
                  exact (Mem.blkB.2 ⟨_, rfl, hn⟩ : Mem W _ (blkB 22 1 [(.slice sb k c' : Value)] _ * _)).p1
              · refine .inl ⟨trivial, fun L a w Kq R hL hw hm hmk hf hK => ?_⟩
                rw [eaten_none rfl, emp_sep] at hm
                obtain ⟨R', rfl⟩ := hmk [false, false, true, false, false] (by kernel_rfl)
                have hm' : Mem W w (_ * (_ * R')) := hm
                obtain ⟨g, y, m1⟩ := Mem.blkB.1 hm'.p1
                have e89 : a.eval (.tmp 89) = .slice (some ⟨g, 0, none⟩) 1 1 := y
                simp only [Act.eval, Array.getD_eq_getD_getElem?] at e89
                unfold Oper.wp
                rw [show (execOp a.eval _).run Tryd.prog w = .ok (.enter 8 #[.slice (some ⟨g, 0, none⟩) 1 1]) w from by simp [execOp, resolve, invoke, go_sem, e89]]
                refine (sum_any _ _ _ [r.take k] w (HT.out w hm.1) (SlL.of_blk (ls := [r.take k]) m1.blk.1 (And.intro ⟨_, _, _, rfl, HSB.out.ext hm.1⟩ trivial) 1 rfl (by omega)) (by omega)).mono ?_
                rintro e w' ⟨rfl, rfl⟩
                rw [show ([r.take k] : List (List UInt8)).flatten = r.take k by simp, HTQ.out]
                exact hK _ _ rfl (by show Mem W w (_ * (emp * _)); rw [emp_sep]; exact hm)
              · refine Fine2.run trivial _ rfl (fun _ => rfl) rfl rfl (fun L a w R hw hm hmk hf => ?_)
                have e87 : a.eval (.tmp 87) = (.int .u32 ((tp : Nat) : Int) : Value) := (hf 87 (by decide +kernel)).new 5 (by kernel_rfl) (by kernel_rfl)
                have e90 : a.eval (.tmp 90) = (.int .u32 ((tq : Nat) : Int) : Value) := (hf 90 (by decide +kernel)).new 8 (by kernel_rfl) (by kernel_rfl)
                simp only [Act.eval, Array.getD_eq_getD_getElem?] at e87 e90
                simp [execOp, resolve, invoke, builtin, go_sem, e87, e90, hx1]
              · refine Fine2.run trivial _ rfl (fun _ => rfl) rfl rfl (fun L a w R hw hm hmk hf => ?_)
                have e8 : a.eval (.tmp 8) = (.int .i64 (k : Int) : Value) := (hf 8 (by decide +kernel)).old (by kernel_rfl)
                simp only [Act.eval, Array.getD_eq_getD_getElem?] at e8
                simp [execOp, resolve, invoke, builtin, go_sem, e8]
              · refine Fine2.open trivial (fun L a w R hL hw hm hmk hf => ?_)
                rw [eaten_none rfl, emp_sep] at hm
                have e92 : a.eval (.tmp 92) = (.int .i64 (k : Int) : Value) := (hf 92 (by decide +kernel)).new 10 (by kernel_rfl) (by kernel_rfl)
                simp only [Act.eval, Array.getD_eq_getD_getElem?] at e92
                refine ⟨.slice (some ⟨w.heap.size, 0, none⟩) k k, w.alloc (.cells (byts (zrs k)).toArray 5), ?_, ⟨_, rfl⟩, ?_⟩
                · simp [execOp, resolve, invoke, builtin, go_sem, e92, HMK.out]
                · exact (Mem.blkB.2 ⟨_, rfl, hm.alloc (byts (zrs k)) 5⟩ : Mem W _ (blkB 5 k (byts (zrs k)) _ * _)).p1
              · refine Fine2.open trivial (fun L a w R hL hw hm hmk hf => ?_)
                have hm' : Mem W w (pts g 5 (byts (xorL (l.take k) (r.take k))) * ((emp * (emp * (emp * (blkB 5 k (byts (zrs k)) (a.eval (.tmp 93)) * (emp * emp))))) * R)) := hm
                rw [emp_sep, emp_sep, emp_sep, emp_sep, sep_emp] at hm'
                obtain ⟨g2, e93, m1⟩ := Mem.blkB.1 hm'.p1
                simp only [Act.eval, Array.getD_eq_getD_getElem?] at e93
                refine ⟨.slice (some ⟨w.heap.size, 0, none⟩) 1 1, w.alloc (.cells #[.slice (some ⟨g2, 0, none⟩) k k] 22), ?_, ⟨_, rfl⟩, ?_⟩
                · simp [execOp, resolve, invoke, builtin, go_sem, e93]
                · have hn := m1.alloc [.slice (some ⟨g2, 0, none⟩) k k] 22
                  show Mem W _ (pts g 5 (byts (xorL (l.take k) (r.take k))) * (ex (fun g2 : Nat => blkB 22 1 [.slice (some ⟨g2, 0, none⟩) k k] _ * pts g2 5 (byts (zrs k))) * R))
                  rw [sep_left_comm]
                  refine Mem.exl.2 ⟨g2, ?_⟩
                  rw [sep_assoc]
                  exact (Mem.blkB.2 ⟨_, rfl, hn⟩ : Mem W _ (blkB 22 1 [.slice (some ⟨g2, 0, none⟩) k k] _ * (pts g2 5 (byts (zrs k)) * (pts g 5 (byts (xorL (l.take k) (r.take k))) * R))))
              · refine .inl ⟨trivial, fun L a w Kq R hL hw hm hmk hf hK => ?_⟩
                rw [eaten_none rfl, emp_sep] at hm
                obtain ⟨R', rfl⟩ := hmk [false, false, false, false, true] (by kernel_rfl)
                have hm' : Mem W w (_ * (_ * R')) := hm
                obtain ⟨g2, m0⟩ := Mem.exl.1 hm'.p1
                rw [sep_assoc] at m0
                obtain ⟨g3, y, m1⟩ := Mem.blkB.1 m0
                have e94 : a.eval (.tmp 94) = .slice (some ⟨g3, 0, none⟩) 1 1 := y
                simp only [Act.eval, Array.getD_eq_getD_getElem?] at e94
                unfold Oper.wp
                rw [show (execOp a.eval _).run Tryd.prog w = .ok (.enter 8 #[.slice (some ⟨g3, 0, none⟩) 1 1]) w from by simp [execOp, resolve, invoke, go_sem, e94]]
                refine (sum_any _ _ _ [zrs k] w (HT.out w hm.1) (SlL.of_blk (ls := [zrs k]) m1.blk.1 (And.intro ⟨_, _, _, rfl, m1.p1.blk.1.sl_all k (by rw [byts_length, zrs_length]) (by omega)⟩ trivial) 1 rfl (by omega)) (by omega)).mono ?_
                rintro e w' ⟨rfl, rfl⟩
                rw [show ([zrs k] : List (List UInt8)).flatten = zrs k by simp, HTZ.out]
                exact hK _ _ rfl (by show Mem W w (_ * (emp * _)); rw [emp_sep]; exact hm)
              · refine Fine2.run trivial _ rfl (fun _ => rfl) rfl rfl (fun L a w R hw hm hmk hf => ?_)
                have e91 : a.eval (.tmp 91) = (.int .u32 ((tp ^^^ tq : Nat) : Int) : Value) := (hf 91 (by decide +kernel)).new 9 (by kernel_rfl) (by kernel_rfl)
                have e95 : a.eval (.tmp 95) = (.int .u32 ((tz : Nat) : Int) : Value) := (hf 95 (by decide +kernel)).new 13 (by kernel_rfl) (by kernel_rfl)
                simp only [Act.eval, Array.getD_eq_getD_getElem?] at e91 e95
                simp [execOp, resolve, invoke, builtin, go_sem, e91, e95, hx2]
              · refine Fine2.run trivial _ rfl (fun _ => rfl) rfl rfl (fun L a w R hw hm hmk hf => ?_)
                have e84 : a.eval (.tmp 84) = (.int .u32 ((tx : Nat) : Int) : Value) := (hf 84 (by decide +kernel)).new 2 (by kernel_rfl) (by kernel_rfl)
                have e96 : a.eval (.tmp 96) = (.int .u32 ((tx : Nat) : Int) : Value) := (hf 96 (by decide +kernel)).new 14 (by kernel_rfl) (by kernel_rfl)
                simp only [Act.eval, Array.getD_eq_getD_getElem?] at e84 e96
                simp [execOp, resolve, invoke, builtin, go_sem, e84, e96]
              · refine Fine2.run trivial _ rfl (fun _ => rfl) rfl rfl (fun L a w R hw hm hmk hf => ?_)
                have e97 : a.eval (.tmp 97) = (.bool true : Value) := (hf 97 (by decide +kernel)).new 15 (by kernel_rfl) (by kernel_rfl)
                simp only [Act.eval, Array.getD_eq_getD_getElem?] at e97
                simp [execOp, resolve, invoke, builtin, go_sem, e97]
            · intro u w9 hu hm9
              have hL : u 6 = .bool true := hu 6 16 rfl
              have HF := hid hm9.1
              simp only [putAll]
              rw [hL]
              clear hm9 hu hL HM12 hx1 hx2
              go_simp
              go_wp2_with fail
              go_ret
              exact ⟨rfl, HF.out⟩
end Go.Proofs.YtipmfbpomhcfcaaDoor
