/- The walk of wal's both. -/
import Derived.Test.YtpaebopmppbjbaaWal2
set_option linter.unusedVariables false
set_option linter.unusedSimpArgs false
namespace Go.Proofs.Ytpaebopmppbjbaa
open Go Go.RowKit Go.Le

set_option maxRecDepth 20000 in
set_option maxHeartbeats 2000000 in
theorem both_any (wb w0 : World) (R : HP) (g : Nat) (D : Dev) (h : Mem wb w0 (devAt T8 g D * R)) (hpl : D.pend.length ≤ 900000000) (i : Nat) (hi : i ≤ 900000000) (p : Int) (b o c : Nat) (pg : List UInt8) (hpg : pg.length = 1024) (hc : 1024 ≤ c) (hc2 : c ≤ 9223372036854775807)
    (hs : ∀ w', Mem wb w' R → Sl w' (some ⟨b, o, none⟩) 1024 c (byts pg)) :
    Calls Try.prog 68 #[.agg #[.pointer (some ⟨g, 0, none⟩), .int .i64 p], .int .i64 (i : Int), .slice (some ⟨b, o, none⟩) 1024 c] w0 (IoSays wb g R (ioBoth i pg D) unitB) := by
  have HM := hid ((h.alloc [.pointer (some ⟨g, 0, none⟩), .int .i64 p] 54).eq (by ac_rfl) : Mem wb _ (devAt T8 g D * (pts w0.heap.size 54 [.pointer (some ⟨g, 0, none⟩), .int .i64 p] * R)))
  have HS : Hid (∀ w', Mem wb w' R → Sl w' (some ⟨b, o, none⟩) 1024 c (byts pg)) := hs
  have HW1 : Hid (∀ w R', Mem wb w (devAt T8 g D * R') → Sl w (some ⟨b, o, none⟩) 1024 c (byts pg) → Calls Try.prog 43 #[.agg #[.pointer (some ⟨g, 0, none⟩), .int .i64 p], .int .i64 (i : Int), .slice (some ⟨b, o, none⟩) 512 c] w (IoSays wb g R' (ioWrite i (pg.take 512) D) unitB)) := by
    show ∀ w R', _
    intro w R' hm hsl
    have h1 := hsl.take 512 (by omega)
    rw [byts_take] at h1
    exact dwrite_any wb w R' g D hm (by omega) i (by omega) p _ 512 c _ h1
  have c512 : ¬ c < 512 := by omega
  have c512' : 512 ≤ c := by omega
  have c512i : ¬ (c : Int) < 512 := by omega
  have c512n : (c = 512) = False := by simp; omega
  have c5122 : ¬ (1024 : Nat) < 512 := by omega
  have wi : IntKind.i64.wrap ((i : Int) + 1) = (i : Int) + 1 := IntWalk.i64_in _ (by omega)
  have WI := hid wi
  clear h hs wi
  obtain ⟨r1, HR1⟩ : ∃ r, Hid (ioWrite i (pg.take 512) D = r) := ⟨_, hid rfl⟩
  have HG : Hid (r1.2.pend.length ≤ D.pend.length + 1) := by rw [← HR1.out]; exact hid (Io.Grows.write i (pg.take 512) D)
  rw [HR1.out] at HW1
  rcases r1 with ⟨c1 | u1, D1⟩
  · have HI : Hid (ioBoth i pg D = (.error c1, D1)) := hid (Io.and_error HR1.out)
    clear HR1 HG hpl hi hc hc2 hpg c512n
    go_enter Try.func68, Try.ntmps68
    go_wp2_with fail
    refine region_mem (by kernel_rfl) (V := fun jv x => match jv with | 0 => x = (.agg #[.pointer (some ⟨g, 0, none⟩), .int .i64 p] : Value) | 1 => x = (.int .i64 (i : Int) : Value) | 2 => x = (.slice (some ⟨b, o, none⟩) 1024 c : Value) | 3 => x = (.slice (some ⟨b, o, none⟩) 512 c : Value) | 4 => False | _ => True) (A := (fun L => (if L 4 then devAt T8 g D1 else devAt T8 g D) * (pts w0.heap.size 54 [.pointer (some ⟨g, 0, none⟩), .int .i64 p] * R))) (Bs := []) HM.out (fun L L' h => by show (if L 4 then _ else _) * _ = (if L' 4 then _ else _) * _; rw [h 4 (by decide)]) (show ([] : List Nat).Nodup by decide) (by kernel_rfl) (by kernel_rfl) ?_ ?_
    · refine ⟨?_, ?_, ?_, ?_, ?_, trivial⟩
      · refine Fine2.run trivial _ rfl (fun _ => rfl) rfl rfl (fun L a w R' hw hm hmk hf => ?_)
        have e3 : a.eval (.tmp 3) = (.pointer (some ⟨w0.heap.size, 0, none⟩) : Value) := (hf 3 (by decide +kernel)).old (by kernel_rfl)
        simp only [Act.eval, Array.getD_eq_getD_getElem?] at e3
        have hbx := hm.left.right
        have q0 := hbx.cell 0
        have q1 := hbx.cell 1
        simp only [List.getElem?_cons_zero, List.getElem?_cons_succ] at q0 q1
        simp [execOp, resolve, invoke, builtin, go_sem, e3, q0, q1]
      · refine Fine2.run trivial _ rfl (fun _ => rfl) rfl rfl (fun L a w R' hw hm hmk hf => ?_)
        have e1 : a.eval (.tmp 1) = (.int .i64 (i : Int) : Value) := (hf 1 (by decide +kernel)).old (by kernel_rfl)
        simp only [Act.eval, Array.getD_eq_getD_getElem?] at e1
        simp [execOp, resolve, invoke, builtin, go_sem, e1]
      · refine Fine2.run trivial _ rfl (fun _ => rfl) rfl rfl (fun L a w R' hw hm hmk hf => ?_)
        have e2 : a.eval (.tmp 2) = (.slice (some ⟨b, o, none⟩) 1024 c : Value) := (hf 2 (by decide +kernel)).old (by kernel_rfl)
        simp only [Act.eval, Array.getD_eq_getD_getElem?] at e2
        simp [execOp, resolve, invoke, builtin, go_sem, e2]
      · refine Fine2.run trivial _ rfl (fun _ => rfl) rfl rfl (fun L a w R' hw hm hmk hf => ?_)
        have e8 : a.eval (.tmp 8) = (.slice (some ⟨b, o, none⟩) 1024 c : Value) := (hf 8 (by decide +kernel)).new 2 (by kernel_rfl) (by kernel_rfl)
        simp only [Act.eval, Array.getD_eq_getD_getElem?] at e8
        simp [execOp, resolve, invoke, builtin, go_sem, e8, c512, c512', c512i]
      · refine Fine2.callP trivial rfl 43 #[(.agg #[.pointer (some ⟨g, 0, none⟩), .int .i64 p]), (.int .i64 (i : Int)), (.slice (some ⟨b, o, none⟩) 512 c)] (fun a w hf => ?_) (fun L a w R' hL hw hm hmk hf hdf hcl => ?_)
        · have e6 : a.eval (.tmp 6) = (.agg #[.pointer (some ⟨g, 0, none⟩), .int .i64 p] : Value) := (hf 6 (by decide +kernel)).new 0 (by kernel_rfl) (by kernel_rfl)
          have e7 : a.eval (.tmp 7) = (.int .i64 (i : Int) : Value) := (hf 7 (by decide +kernel)).new 1 (by kernel_rfl) (by kernel_rfl)
          have e9 : a.eval (.tmp 9) = (.slice (some ⟨b, o, none⟩) 512 c : Value) := (hf 9 (by decide +kernel)).new 3 (by kernel_rfl) (by kernel_rfl)
          simp only [Act.eval, Array.getD_eq_getD_getElem?] at e6 e7 e9
          simp [execOp, resolve, invoke, go_sem, e6, e7, e9]
        · have hm : Mem wb w ((if L 4 then devAt T8 g D1 else devAt T8 g D) * (pts w0.heap.size 54 [.pointer (some ⟨g, 0, none⟩), .int .i64 p] * R) * R') := hm
          rw [hL] at hm
          have hm : Mem wb w (devAt T8 g D * (pts w0.heap.size 54 [.pointer (some ⟨g, 0, none⟩), .int .i64 p] * R) * R') := hm
          refine (HW1.out w (pts w0.heap.size 54 [.pointer (some ⟨g, 0, none⟩), .int .i64 p] * R * R') (hm.eq (by ac_rfl)) (HS.out w hm.left.right.right)).mono ?_
          intro e w' hs'
          obtain ⟨rfl, hc, hm'⟩ := hs'.error rfl
          exact .inr ⟨_, rfl, hdf, IoSays.mkError HI.out hc (hm'.eq (by ac_rfl) : Mem wb w' (pts w0.heap.size 54 [.pointer (some ⟨g, 0, none⟩), .int .i64 p] * R' * (devAt T8 g D1 * R))).right⟩
    · intro u w9 hu hm9
      exact absurd (hu 10 4 rfl) (fun h => h)
  · have HW2 : Hid (∀ w R', Mem wb w (devAt T8 g D1 * R') → Sl w (some ⟨b, o, none⟩) 1024 c (byts pg) → Calls Try.prog 43 #[.agg #[.pointer (some ⟨g, 0, none⟩), .int .i64 p], .int .i64 ((i : Int) + 1), .slice (some ⟨b, o + 512, none⟩) 512 (c - 512)] w (IoSays wb g R' (ioWrite (i + 1) (pg.drop 512) D1) unitB)) := by
      show ∀ w R', _
      intro w R' hm hsl
      have h1 := hsl.cut2 512 1024 (some ⟨b, o + 512, none⟩) 512 (c - 512) (by omega) (by omega) (by rw [if_neg (by omega)]; simp [Addr.add]) (by omega) rfl
      rw [byts_take, byts_drop, List.take_of_length_le (by omega)] at h1
      have hw := dwrite_any wb w R' g D1 hm (by have := HG.out; first | omega | (simp only at this; omega)) (i + 1) (by omega) p _ 512 (c - 512) _ h1
      rw [show ((i + 1 : Nat) : Int) = (i : Int) + 1 by omega] at hw
      exact hw
    have HC := hid c512n
    have HB : Hid (ioBoth i pg D = ioWrite (i + 1) (pg.drop 512) D1) := hid (Io.and_ok HR1.out)
    clear hpg HG c512n HR1
    go_enter Try.func68, Try.ntmps68
    go_wp2_with fail
    refine region_mem (by kernel_rfl) (V := fun jv x => match jv with | 0 => x = (.agg #[.pointer (some ⟨g, 0, none⟩), .int .i64 p] : Value) | 1 => x = (.int .i64 (i : Int) : Value) | 2 => x = (.slice (some ⟨b, o, none⟩) 1024 c : Value) | 3 => x = (.slice (some ⟨b, o, none⟩) 512 c : Value) | 4 => x = (.tuple #[] : Value) | _ => True) (A := (fun L => (if L 4 then devAt T8 g D1 else devAt T8 g D) * (pts w0.heap.size 54 [.pointer (some ⟨g, 0, none⟩), .int .i64 p] * R))) (Bs := []) HM.out (fun L L' h => by show (if L 4 then _ else _) * _ = (if L' 4 then _ else _) * _; rw [h 4 (by decide)]) (show ([] : List Nat).Nodup by decide) (by kernel_rfl) (by kernel_rfl) ?_ ?_
    · refine ⟨?_, ?_, ?_, ?_, ?_, trivial⟩
      · refine Fine2.run trivial _ rfl (fun _ => rfl) rfl rfl (fun L a w R' hw hm hmk hf => ?_)
        have e3 : a.eval (.tmp 3) = (.pointer (some ⟨w0.heap.size, 0, none⟩) : Value) := (hf 3 (by decide +kernel)).old (by kernel_rfl)
        simp only [Act.eval, Array.getD_eq_getD_getElem?] at e3
        have hbx := hm.left.right
        have q0 := hbx.cell 0
        have q1 := hbx.cell 1
        simp only [List.getElem?_cons_zero, List.getElem?_cons_succ] at q0 q1
        simp [execOp, resolve, invoke, builtin, go_sem, e3, q0, q1]
      · refine Fine2.run trivial _ rfl (fun _ => rfl) rfl rfl (fun L a w R' hw hm hmk hf => ?_)
        have e1 : a.eval (.tmp 1) = (.int .i64 (i : Int) : Value) := (hf 1 (by decide +kernel)).old (by kernel_rfl)
        simp only [Act.eval, Array.getD_eq_getD_getElem?] at e1
        simp [execOp, resolve, invoke, builtin, go_sem, e1]
      · refine Fine2.run trivial _ rfl (fun _ => rfl) rfl rfl (fun L a w R' hw hm hmk hf => ?_)
        have e2 : a.eval (.tmp 2) = (.slice (some ⟨b, o, none⟩) 1024 c : Value) := (hf 2 (by decide +kernel)).old (by kernel_rfl)
        simp only [Act.eval, Array.getD_eq_getD_getElem?] at e2
        simp [execOp, resolve, invoke, builtin, go_sem, e2]
      · refine Fine2.run trivial _ rfl (fun _ => rfl) rfl rfl (fun L a w R' hw hm hmk hf => ?_)
        have e8 : a.eval (.tmp 8) = (.slice (some ⟨b, o, none⟩) 1024 c : Value) := (hf 8 (by decide +kernel)).new 2 (by kernel_rfl) (by kernel_rfl)
        simp only [Act.eval, Array.getD_eq_getD_getElem?] at e8
        simp [execOp, resolve, invoke, builtin, go_sem, e8, c512, c512', c512i]
      · refine Fine2.callP trivial rfl 43 #[(.agg #[.pointer (some ⟨g, 0, none⟩), .int .i64 p]), (.int .i64 (i : Int)), (.slice (some ⟨b, o, none⟩) 512 c)] (fun a w hf => ?_) (fun L a w R' hL hw hm hmk hf hdf hcl => ?_)
        · have e6 : a.eval (.tmp 6) = (.agg #[.pointer (some ⟨g, 0, none⟩), .int .i64 p] : Value) := (hf 6 (by decide +kernel)).new 0 (by kernel_rfl) (by kernel_rfl)
          have e7 : a.eval (.tmp 7) = (.int .i64 (i : Int) : Value) := (hf 7 (by decide +kernel)).new 1 (by kernel_rfl) (by kernel_rfl)
          have e9 : a.eval (.tmp 9) = (.slice (some ⟨b, o, none⟩) 512 c : Value) := (hf 9 (by decide +kernel)).new 3 (by kernel_rfl) (by kernel_rfl)
          simp only [Act.eval, Array.getD_eq_getD_getElem?] at e6 e7 e9
          simp [execOp, resolve, invoke, go_sem, e6, e7, e9]
        · have hm : Mem wb w ((if L 4 then devAt T8 g D1 else devAt T8 g D) * (pts w0.heap.size 54 [.pointer (some ⟨g, 0, none⟩), .int .i64 p] * R) * R') := hm
          rw [hL] at hm
          have hm : Mem wb w (devAt T8 g D * (pts w0.heap.size 54 [.pointer (some ⟨g, 0, none⟩), .int .i64 p] * R) * R') := hm
          refine (HW1.out w (pts w0.heap.size 54 [.pointer (some ⟨g, 0, none⟩), .int .i64 p] * R * R') (hm.eq (by ac_rfl)) (HS.out w hm.left.right.right)).mono ?_
          intro e w' hs'
          obtain ⟨rfl, hm'⟩ := hs'.unit rfl
          refine .inl ⟨_, rfl, rfl, ?_⟩
          show Mem wb w' ((if doneSet L 4 4 then devAt T8 g D1 else devAt T8 g D) * (pts w0.heap.size 54 [.pointer (some ⟨g, 0, none⟩), .int .i64 p] * R) * (emp * R'))
          rw [show doneSet L 4 4 = true from rfl, emp_sep]
          exact hm'.eq (by show _ = devAt T8 g D1 * (pts w0.heap.size 54 [.pointer (some ⟨g, 0, none⟩), .int .i64 p] * R) * R'; ac_rfl)
    · intro u w9 hu hm9
      have HM : Hid (Mem wb w9 (devAt T8 g D1 * (pts w0.heap.size 54 [.pointer (some ⟨g, 0, none⟩), .int .i64 p] * R))) := by
        have h9 : Mem wb w9 ((devAt T8 g D1 * (pts w0.heap.size 54 [.pointer (some ⟨g, 0, none⟩), .int .i64 p] * R)) * emp) := hm9
        rw [sep_emp] at h9
        exact hid h9
      simp only [putAll]
      clear hm9 hu HW1
      obtain ⟨r2, HR2⟩ : ∃ r, Hid (ioWrite (i + 1) (pg.drop 512) D1 = r) := ⟨_, hid rfl⟩
      have HI : Hid (ioBoth i pg D = r2) := hid (HB.out.trans HR2.out)
      rw [HR2.out] at HW2
      clear HR2 HB
      rcases r2 with ⟨c2 | u2, D2⟩
      · have HE : Hid (((.error c2, D2) : Except Int Unit × Dev) = (.error c2, D2)) := hid rfl
        go_simp
        go_wp2_with fail
        have wi := WI.out
        have c512n := HC.out
        refine region_mem (by kernel_rfl) (V := fun jv x => match jv with | 0 => x = (.agg #[.pointer (some ⟨g, 0, none⟩), .int .i64 p] : Value) | 1 => x = (.int .i64 (i : Int) : Value) | 2 => x = (.int .i64 ((i : Int) + 1) : Value) | 3 => x = (.slice (some ⟨b, o, none⟩) 1024 c : Value) | 4 => x = (.slice (some ⟨b, o + 512, none⟩) 512 (c - 512) : Value) | 5 => False | _ => True) (A := (fun L => (if L 5 then devAt T8 g D2 else devAt T8 g D1) * (pts w0.heap.size 54 [.pointer (some ⟨g, 0, none⟩), .int .i64 p] * R))) (Bs := []) HM.out (fun L L' h => by show (if L 5 then _ else _) * _ = (if L' 5 then _ else _) * _; rw [h 5 (by decide)]) (show ([] : List Nat).Nodup by decide) (by kernel_rfl) (by kernel_rfl) ?_ ?_
        · refine ⟨?_, ?_, ?_, ?_, ?_, ?_, trivial⟩
          · refine Fine2.run trivial _ rfl (fun _ => rfl) rfl rfl (fun L a w R' hw hm hmk hf => ?_)
            have e3 : a.eval (.tmp 3) = (.pointer (some ⟨w0.heap.size, 0, none⟩) : Value) := (hf 3 (by decide +kernel)).old (by kernel_rfl)
            simp only [Act.eval, Array.getD_eq_getD_getElem?] at e3
            have hbx := hm.left.right
            have q0 := hbx.cell 0
            have q1 := hbx.cell 1
            simp only [List.getElem?_cons_zero, List.getElem?_cons_succ] at q0 q1
            simp [execOp, resolve, invoke, builtin, go_sem, e3, q0, q1]
          · refine Fine2.run trivial _ rfl (fun _ => rfl) rfl rfl (fun L a w R' hw hm hmk hf => ?_)
            have e1 : a.eval (.tmp 1) = (.int .i64 (i : Int) : Value) := (hf 1 (by decide +kernel)).old (by kernel_rfl)
            simp only [Act.eval, Array.getD_eq_getD_getElem?] at e1
            simp [execOp, resolve, invoke, builtin, go_sem, e1]
          · refine Fine2.run trivial _ rfl (fun _ => rfl) rfl rfl (fun L a w R' hw hm hmk hf => ?_)
            have e12 : a.eval (.tmp 12) = (.int .i64 (i : Int) : Value) := (hf 12 (by decide +kernel)).new 1 (by kernel_rfl) (by kernel_rfl)
            simp only [Act.eval, Array.getD_eq_getD_getElem?] at e12
            simp [execOp, resolve, invoke, builtin, go_sem, e12, wi]
          · refine Fine2.run trivial _ rfl (fun _ => rfl) rfl rfl (fun L a w R' hw hm hmk hf => ?_)
            have e2 : a.eval (.tmp 2) = (.slice (some ⟨b, o, none⟩) 1024 c : Value) := (hf 2 (by decide +kernel)).old (by kernel_rfl)
            simp only [Act.eval, Array.getD_eq_getD_getElem?] at e2
            simp [execOp, resolve, invoke, builtin, go_sem, e2]
          · refine Fine2.run trivial _ rfl (fun _ => rfl) rfl rfl (fun L a w R' hw hm hmk hf => ?_)
            have e14 : a.eval (.tmp 14) = (.slice (some ⟨b, o, none⟩) 1024 c : Value) := (hf 14 (by decide +kernel)).new 3 (by kernel_rfl) (by kernel_rfl)
            simp only [Act.eval, Array.getD_eq_getD_getElem?] at e14
            simp [execOp, resolve, invoke, builtin, go_sem, e14, c5122, c512n]
          · refine Fine2.callP trivial rfl 43 #[(.agg #[.pointer (some ⟨g, 0, none⟩), .int .i64 p]), (.int .i64 ((i : Int) + 1)), (.slice (some ⟨b, o + 512, none⟩) 512 (c - 512))] (fun a w hf => ?_) (fun L a w R' hL hw hm hmk hf hdf hcl => ?_)
            · have e11 : a.eval (.tmp 11) = (.agg #[.pointer (some ⟨g, 0, none⟩), .int .i64 p] : Value) := (hf 11 (by decide +kernel)).new 0 (by kernel_rfl) (by kernel_rfl)
              have e13 : a.eval (.tmp 13) = (.int .i64 ((i : Int) + 1) : Value) := (hf 13 (by decide +kernel)).new 2 (by kernel_rfl) (by kernel_rfl)
              have e15 : a.eval (.tmp 15) = (.slice (some ⟨b, o + 512, none⟩) 512 (c - 512) : Value) := (hf 15 (by decide +kernel)).new 4 (by kernel_rfl) (by kernel_rfl)
              simp only [Act.eval, Array.getD_eq_getD_getElem?] at e11 e13 e15
              simp [execOp, resolve, invoke, go_sem, e11, e13, e15]
            · have hm : Mem wb w ((if L 5 then devAt T8 g D2 else devAt T8 g D1) * (pts w0.heap.size 54 [.pointer (some ⟨g, 0, none⟩), .int .i64 p] * R) * R') := hm
              rw [hL] at hm
              have hm : Mem wb w (devAt T8 g D1 * (pts w0.heap.size 54 [.pointer (some ⟨g, 0, none⟩), .int .i64 p] * R) * R') := hm
              refine (HW2.out w (pts w0.heap.size 54 [.pointer (some ⟨g, 0, none⟩), .int .i64 p] * R * R') (hm.eq (by ac_rfl)) (HS.out w hm.left.right.right)).mono ?_
              intro e w' hs'
              obtain ⟨rfl, hc, hm'⟩ := hs'.error rfl
              exact .inr ⟨_, rfl, hdf, IoSays.mkError HI.out hc (hm'.eq (by ac_rfl) : Mem wb w' (pts w0.heap.size 54 [.pointer (some ⟨g, 0, none⟩), .int .i64 p] * R' * (devAt T8 g D2 * R))).right⟩
        · intro u w9 hu hm9
          exact absurd (hu 16 5 rfl) (fun h => h)
      · have HE : Hid (((.ok u2, D2) : Except Int Unit × Dev) = (.ok (), D2)) := hid rfl
        go_simp
        go_wp2_with fail
        have wi := WI.out
        have c512n := HC.out
        refine region_mem (by kernel_rfl) (V := fun jv x => match jv with | 0 => x = (.agg #[.pointer (some ⟨g, 0, none⟩), .int .i64 p] : Value) | 1 => x = (.int .i64 (i : Int) : Value) | 2 => x = (.int .i64 ((i : Int) + 1) : Value) | 3 => x = (.slice (some ⟨b, o, none⟩) 1024 c : Value) | 4 => x = (.slice (some ⟨b, o + 512, none⟩) 512 (c - 512) : Value) | 5 => x = (.tuple #[] : Value) | _ => True) (A := (fun L => (if L 5 then devAt T8 g D2 else devAt T8 g D1) * (pts w0.heap.size 54 [.pointer (some ⟨g, 0, none⟩), .int .i64 p] * R))) (Bs := []) HM.out (fun L L' h => by show (if L 5 then _ else _) * _ = (if L' 5 then _ else _) * _; rw [h 5 (by decide)]) (show ([] : List Nat).Nodup by decide) (by kernel_rfl) (by kernel_rfl) ?_ ?_
        · refine ⟨?_, ?_, ?_, ?_, ?_, ?_, trivial⟩
          · refine Fine2.run trivial _ rfl (fun _ => rfl) rfl rfl (fun L a w R' hw hm hmk hf => ?_)
            have e3 : a.eval (.tmp 3) = (.pointer (some ⟨w0.heap.size, 0, none⟩) : Value) := (hf 3 (by decide +kernel)).old (by kernel_rfl)
            simp only [Act.eval, Array.getD_eq_getD_getElem?] at e3
            have hbx := hm.left.right
            have q0 := hbx.cell 0
            have q1 := hbx.cell 1
            simp only [List.getElem?_cons_zero, List.getElem?_cons_succ] at q0 q1
            simp [execOp, resolve, invoke, builtin, go_sem, e3, q0, q1]
          · refine Fine2.run trivial _ rfl (fun _ => rfl) rfl rfl (fun L a w R' hw hm hmk hf => ?_)
            have e1 : a.eval (.tmp 1) = (.int .i64 (i : Int) : Value) := (hf 1 (by decide +kernel)).old (by kernel_rfl)
            simp only [Act.eval, Array.getD_eq_getD_getElem?] at e1
            simp [execOp, resolve, invoke, builtin, go_sem, e1]
          · refine Fine2.run trivial _ rfl (fun _ => rfl) rfl rfl (fun L a w R' hw hm hmk hf => ?_)
            have e12 : a.eval (.tmp 12) = (.int .i64 (i : Int) : Value) := (hf 12 (by decide +kernel)).new 1 (by kernel_rfl) (by kernel_rfl)
            simp only [Act.eval, Array.getD_eq_getD_getElem?] at e12
            simp [execOp, resolve, invoke, builtin, go_sem, e12, wi]
          · refine Fine2.run trivial _ rfl (fun _ => rfl) rfl rfl (fun L a w R' hw hm hmk hf => ?_)
            have e2 : a.eval (.tmp 2) = (.slice (some ⟨b, o, none⟩) 1024 c : Value) := (hf 2 (by decide +kernel)).old (by kernel_rfl)
            simp only [Act.eval, Array.getD_eq_getD_getElem?] at e2
            simp [execOp, resolve, invoke, builtin, go_sem, e2]
          · refine Fine2.run trivial _ rfl (fun _ => rfl) rfl rfl (fun L a w R' hw hm hmk hf => ?_)
            have e14 : a.eval (.tmp 14) = (.slice (some ⟨b, o, none⟩) 1024 c : Value) := (hf 14 (by decide +kernel)).new 3 (by kernel_rfl) (by kernel_rfl)
            simp only [Act.eval, Array.getD_eq_getD_getElem?] at e14
            simp [execOp, resolve, invoke, builtin, go_sem, e14, c5122, c512n]
          · refine Fine2.callP trivial rfl 43 #[(.agg #[.pointer (some ⟨g, 0, none⟩), .int .i64 p]), (.int .i64 ((i : Int) + 1)), (.slice (some ⟨b, o + 512, none⟩) 512 (c - 512))] (fun a w hf => ?_) (fun L a w R' hL hw hm hmk hf hdf hcl => ?_)
            · have e11 : a.eval (.tmp 11) = (.agg #[.pointer (some ⟨g, 0, none⟩), .int .i64 p] : Value) := (hf 11 (by decide +kernel)).new 0 (by kernel_rfl) (by kernel_rfl)
              have e13 : a.eval (.tmp 13) = (.int .i64 ((i : Int) + 1) : Value) := (hf 13 (by decide +kernel)).new 2 (by kernel_rfl) (by kernel_rfl)
              have e15 : a.eval (.tmp 15) = (.slice (some ⟨b, o + 512, none⟩) 512 (c - 512) : Value) := (hf 15 (by decide +kernel)).new 4 (by kernel_rfl) (by kernel_rfl)
              simp only [Act.eval, Array.getD_eq_getD_getElem?] at e11 e13 e15
              simp [execOp, resolve, invoke, go_sem, e11, e13, e15]
            · have hm : Mem wb w ((if L 5 then devAt T8 g D2 else devAt T8 g D1) * (pts w0.heap.size 54 [.pointer (some ⟨g, 0, none⟩), .int .i64 p] * R) * R') := hm
              rw [hL] at hm
              have hm : Mem wb w (devAt T8 g D1 * (pts w0.heap.size 54 [.pointer (some ⟨g, 0, none⟩), .int .i64 p] * R) * R') := hm
              refine (HW2.out w (pts w0.heap.size 54 [.pointer (some ⟨g, 0, none⟩), .int .i64 p] * R * R') (hm.eq (by ac_rfl)) (HS.out w hm.left.right.right)).mono ?_
              intro e w' hs'
              obtain ⟨rfl, hm'⟩ := hs'.unit rfl
              refine .inl ⟨_, rfl, rfl, ?_⟩
              show Mem wb w' ((if doneSet L 5 5 then devAt T8 g D2 else devAt T8 g D1) * (pts w0.heap.size 54 [.pointer (some ⟨g, 0, none⟩), .int .i64 p] * R) * (emp * R'))
              rw [show doneSet L 5 5 = true from rfl, emp_sep]
              exact hm'.eq (by show _ = devAt T8 g D2 * (pts w0.heap.size 54 [.pointer (some ⟨g, 0, none⟩), .int .i64 p] * R) * R'; ac_rfl)
        · intro u w9 hu hm9
          have HM : Hid (Mem wb w9 (devAt T8 g D2 * R)) := by
            have h9 : Mem wb w9 ((devAt T8 g D2 * (pts w0.heap.size 54 [.pointer (some ⟨g, 0, none⟩), .int .i64 p] * R)) * emp) := hm9
            rw [sep_emp] at h9
            exact hid h9.p1.right
          simp only [putAll]
          clear hm9 hu HW2 wi c512n
          go_simp
          go_end0
          exact IoSays.mkUnit HI.out HM.out
end Go.Proofs.Ytpaebopmppbjbaa
