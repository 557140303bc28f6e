/- The walk of wal's Read, where the disk answers. -/
import Derived.Test.YtpaebopmppbjbaaWal13
set_option linter.unusedVariables false
set_option linter.unusedSimpArgs false
namespace Go.Le
open Go Go.RowKit
theorem Io.ok_and {α β : Type} {m : Io α} {f : α → Io β} {D D' : Dev} {b : β} (h : m.and f D = (.ok b, D')) : ∃ a D1, m D = (.ok a, D1) ∧ f a D1 = (.ok b, D') := by
  unfold Io.and at h
  match hm : m D with
  | (.ok a, D1) => rw [hm] at h; exact ⟨a, D1, rfl, h⟩
  | (.error e, D1) => rw [hm] at h; cases h
end Go.Le
namespace Go.Proofs.Ytpaebopmppbjbaa
open Go Go.RowKit Go.Le

set_option maxRecDepth 20000 in
set_option maxHeartbeats 4000000 in
theorem Read1_ok (wb w0 : World) (R : HP) (g gl bl bn bo p n : Nat) (er ov : Value) (D : Dev) (h : Mem wb w0 (pts gl 60 [.pointer (some ⟨g, 0, none⟩), .int .i64 (p : Int), er] * (pts bl 22 [.pointer (some ⟨gl, 0, none⟩)] * (pts bn 3 [.int .i64 (n : Int)] * (pts bo 37 [ov] * (devAt T8 g D * R)))))) (hpl : D.pend.length ≤ 900000000) (hn : n ≤ 1000) (hp : p ≤ 1000) (pg : List UInt8) (D' : Dev) (hio : ioPage p n D = (.ok pg, D')) :
    Calls Try.prog 57 #[.pointer (some ⟨bl, 0, none⟩), .pointer (some ⟨bn, 0, none⟩), .pointer (some ⟨bo, 0, none⟩)] w0 fun e w' => e = .returned (.tuple #[]) ∧ D' = D ∧ pg.length = 1024 ∧
      Mem wb w' (pts gl 60 [.pointer (some ⟨g, 0, none⟩), .int .i64 (p : Int), er] * (pts bl 22 [.pointer (some ⟨gl, 0, none⟩)] * (pts bn 3 [.int .i64 (n : Int)] * (devAt T8 g D * R))) * ex fun x : Option Addr × Nat => pts bo 37 [.slice x.1 pg.length x.2] * row 5 1 x.1 pg.length x.2 (byts pg)) := by
  unfold ioPage at hio
  obtain ⟨xa, D1, h1, hio1⟩ := Io.ok_and hio
  obtain ⟨xb, D2, h2, hio2⟩ := Io.ok_and hio1
  clear hio hio1
  obtain rfl := (read_same h1).symm
  obtain rfl := (read_same h2).symm
  obtain ⟨hok, -⟩ := Mem.devAt.1 (h.eq (by ac_rfl) : Mem wb w0 (devAt T8 g D * (pts gl 60 [.pointer (some ⟨g, 0, none⟩), .int .i64 (p : Int), er] * (pts bl 22 [.pointer (some ⟨gl, 0, none⟩)] * (pts bn 3 [.int .i64 (n : Int)] * (pts bo 37 [ov] * R))))))
  have hxa := read_len hok h1
  have hxb := read_len hok h2
  cases hio2
  have hho : homeOf p n ≤ 10000 := by unfold homeOf; omega
  have HHO : Hid (∀ w, Calls Try.prog 44 #[(.agg #[.pointer (some ⟨g, 0, none⟩), .int .i64 (p : Int)]), .int .i64 (n : Int)] w fun e w' => e = .returned (.int .i64 ((homeOf p n : Nat) : Int)) ∧ Fr w.heap.size [] w w') := fun w => home_any w _ n p (by omega) (by omega)
  generalize homeOf p n = ho at *
  have HR1 : Hid (∀ w R', Mem wb w (devAt T8 g D * R') → Calls Try.prog 25 #[(.agg #[.pointer (some ⟨g, 0, none⟩), .int .i64 (p : Int)]), .int .i64 (ho : Int)] w (IoSays wb g R' (.ok xa, D) bytesB)) := by
    show ∀ w R', _
    intro w R' h
    rw [← h1]
    exact dread_any wb w R' g D h (by omega) ho (by omega) (p : Int)
  have HR2 : Hid (∀ w R', Mem wb w (devAt T8 g D * R') → Calls Try.prog 25 #[(.agg #[.pointer (some ⟨g, 0, none⟩), .int .i64 (p : Int)]), .int .i64 ((ho : Int) + 1)] w (IoSays wb g R' (.ok xb, D) bytesB)) := by
    show ∀ w R', _
    intro w R' h
    rw [← h2]
    have := dread_any wb w R' g D h (by omega) (ho + 1) (by omega) (p : Int)
    rw [show ((ho + 1 : Nat) : Int) = (ho : Int) + 1 by omega] at this
    exact this
  have WH : IntKind.i64.wrap ((ho : Int) + 1) = (ho : Int) + 1 := IntWalk.i64_in _ (by omega)
  have HWH := hid WH
  have HM := hid h
  have HX := hid (And.intro hxa hxb)
  obtain ⟨i8, hi8, hz8, hs8, hb8⟩ := info_parts u8info'
  have HI := hid (And.intro hi8 (And.intro hz8 (And.intro hs8 hb8)))
  clear h h1 h2 hok hxa hxb WH hi8 hz8 hs8 hb8
  go_enter Try.func57, Try.ntmps57
  go_wp2_with fail
  refine region_mem (by kernel_rfl) (V := fun jv x => match jv with | 0 => x = (.pointer (some ⟨gl, 0, none⟩) : Value) | 1 => x = (.pointer (some ⟨gl, 0, none⟩) : Value) | 2 => x = (.pointer (some ⟨gl, 0, none⟩) : Value) | 3 => x = (.agg #[.pointer (some ⟨g, 0, none⟩), .int .i64 (p : Int)] : Value) | 4 => x = (.int .i64 (n : Int) : Value) | 5 => x = (.int .i64 (ho : Int) : Value) | 6 => x = (.int .i64 (ho : Int) : Value) | _ => True) (A := (fun _ => (pts gl 60 [.pointer (some ⟨g, 0, none⟩), .int .i64 (p : Int), er] * (pts bl 22 [.pointer (some ⟨gl, 0, none⟩)] * (pts bn 3 [.int .i64 (n : Int)] * (pts bo 37 [ov] * (devAt T8 g D * R))))))) (Bs := []) HM.out (fun _ _ _ => rfl) (show ([] : List Nat).Nodup by decide) (by kernel_rfl) (by kernel_rfl) ?_ ?_
  · refine ⟨?_, ?_, ?_, ?_, ?_, ?_, ?_, trivial⟩
    · refine Fine2.run trivial _ rfl (fun _ => rfl) rfl rfl (fun L a w R' hw hm hmk hf => ?_)
      have e0 : a.eval (.tmp 0) = (.pointer (some ⟨bl, 0, none⟩) : Value) := (hf 0 (by decide +kernel)).old (by kernel_rfl)
      simp only [Act.eval, Array.getD_eq_getD_getElem?] at e0
      have hbx := hm.left.right
      have q0 := hbx.cell 0
      simp only [List.getElem?_cons_zero] at q0
      simp [execOp, resolve, invoke, builtin, go_sem, e0, q0]
    · refine Fine2.run trivial _ rfl (fun _ => rfl) rfl rfl (fun L a w R' hw hm hmk hf => ?_)
      have e4 : a.eval (.tmp 4) = (.pointer (some ⟨gl, 0, none⟩) : Value) := (hf 4 (by decide +kernel)).new 0 (by kernel_rfl) (by kernel_rfl)
      simp only [Act.eval, Array.getD_eq_getD_getElem?] at e4
      simp [execOp, resolve, invoke, builtin, go_sem, e4]
    · refine Fine2.run trivial _ rfl (fun _ => rfl) rfl rfl (fun L a w R' hw hm hmk hf => ?_)
      have e5 : a.eval (.tmp 5) = (.pointer (some ⟨gl, 0, none⟩) : Value) := (hf 5 (by decide +kernel)).new 1 (by kernel_rfl) (by kernel_rfl)
      simp only [Act.eval, Array.getD_eq_getD_getElem?] at e5
      simp [execOp, resolve, invoke, builtin, go_sem, e5]
    · refine Fine2.run trivial _ rfl (fun _ => rfl) rfl rfl (fun L a w R' hw hm hmk hf => ?_)
      have e6 : a.eval (.tmp 6) = (.pointer (some ⟨gl, 0, none⟩) : Value) := (hf 6 (by decide +kernel)).new 2 (by kernel_rfl) (by kernel_rfl)
      simp only [Act.eval, Array.getD_eq_getD_getElem?] at e6
      have hbx := hm.left
      have q0 := hbx.cell 0
      have q1 := hbx.cell 1
      simp only [List.getElem?_cons_zero, List.getElem?_cons_succ] at q0 q1
      simp [execOp, resolve, invoke, builtin, go_sem, e6, q0, q1]
    · refine Fine2.run trivial _ rfl (fun _ => rfl) rfl rfl (fun L a w R' hw hm hmk hf => ?_)
      have e1 : a.eval (.tmp 1) = (.pointer (some ⟨bn, 0, none⟩) : Value) := (hf 1 (by decide +kernel)).old (by kernel_rfl)
      simp only [Act.eval, Array.getD_eq_getD_getElem?] at e1
      have hbx := hm.left.right.right
      have q0 := hbx.cell 0
      simp only [List.getElem?_cons_zero] at q0
      simp [execOp, resolve, invoke, builtin, go_sem, e1, q0]
    · refine Fine2.call trivial rfl 44 #[(.agg #[.pointer (some ⟨g, 0, none⟩), .int .i64 (p : Int)]), .int .i64 (n : Int)] (fun a w hf => ?_) (fun L a w R' hL hw hm hmk hf => ?_)
      · have e7 : a.eval (.tmp 7) = (.agg #[.pointer (some ⟨g, 0, none⟩), .int .i64 (p : Int)] : Value) := (hf 7 (by decide +kernel)).new 3 (by kernel_rfl) (by kernel_rfl)
        have e8 : a.eval (.tmp 8) = (.int .i64 (n : Int) : Value) := (hf 8 (by decide +kernel)).new 4 (by kernel_rfl) (by kernel_rfl)
        simp only [Act.eval, Array.getD_eq_getD_getElem?] at e7 e8
        simp [execOp, resolve, invoke, go_sem, e7, e8]
      · refine (HHO.out w).mono ?_
        rintro e w' ⟨rfl, hf'⟩
        refine ⟨_, rfl, rfl, ?_⟩
        show Mem wb w' ((pts gl 60 [.pointer (some ⟨g, 0, none⟩), .int .i64 (p : Int), er] * (pts bl 22 [.pointer (some ⟨gl, 0, none⟩)] * (pts bn 3 [.int .i64 (n : Int)] * (pts bo 37 [ov] * (devAt T8 g D * R))))) * (emp * R'))
        rw [emp_sep]
        exact hm.fr hf'
    · refine Fine2.run trivial _ rfl (fun _ => rfl) rfl rfl (fun L a w R' hw hm hmk hf => ?_)
      have e9 : a.eval (.tmp 9) = (.int .i64 (ho : Int) : Value) := (hf 9 (by decide +kernel)).new 5 (by kernel_rfl) (by kernel_rfl)
      simp only [Act.eval, Array.getD_eq_getD_getElem?] at e9
      simp [execOp, resolve, invoke, builtin, go_sem, e9]
  · intro u w9 hu hm9
    have h3 : u 3 = .int .i64 (ho : Int) := hu 3 6 rfl
    have HM2 := hid (hm9.left.eq (by ac_rfl) : Mem wb w9 (pts gl 60 [.pointer (some ⟨g, 0, none⟩), .int .i64 (p : Int), er] * (pts bl 22 [.pointer (some ⟨gl, 0, none⟩)] * (pts bn 3 [.int .i64 (n : Int)] * (devAt T8 g D * R))) * pts bo 37 [ov]))
    simp only [putAll]
    rw [h3]
    clear hm9 hu h3 HM
    go_simp
    go_wp2_with fail
    have HM := HM2
    have WH := HWH.out
    obtain ⟨hxa, hxb⟩ := HX.out
    obtain ⟨hi8, hz8, hs8, hb8⟩ := HI.out
    refine region_mem (by kernel_rfl) (V := fun jv x => match jv with | 0 => x = (.pointer (some ⟨gl, 0, none⟩) : Value) | 1 => x = (.pointer (some ⟨gl, 0, none⟩) : Value) | 2 => x = (.pointer (some ⟨gl, 0, none⟩) : Value) | 3 => x = (.agg #[.pointer (some ⟨g, 0, none⟩), .int .i64 (p : Int)] : Value) | 4 => x = (.int .i64 (ho : Int) : Value) | 5 => ∃ a2 c2, x = (.slice a2 xa.length c2 : Value) | 6 => x = (.pointer (some ⟨gl, 0, none⟩) : Value) | 7 => x = (.pointer (some ⟨gl, 0, none⟩) : Value) | 8 => x = (.pointer (some ⟨gl, 0, none⟩) : Value) | 9 => x = (.agg #[.pointer (some ⟨g, 0, none⟩), .int .i64 (p : Int)] : Value) | 10 => x = (.int .i64 (ho : Int) : Value) | 11 => x = (.int .i64 ((ho : Int) + 1) : Value) | 12 => ∃ a2 c2, x = (.slice a2 xb.length c2 : Value) | 13 => ∃ a2 c2, x = (.slice a2 (xa ++ xb).length c2 : Value) | 14 => x = undef | _ => True) (A := (fun L => (pts gl 60 [.pointer (some ⟨g, 0, none⟩), .int .i64 (p : Int), er] * (pts bl 22 [.pointer (some ⟨gl, 0, none⟩)] * (pts bn 3 [.int .i64 (n : Int)] * (devAt T8 g D * R)))) * (if L 14 then (ex fun x : Option Addr × Nat => pts bo 37 [.slice x.1 (xa ++ xb).length x.2] * row 5 1 x.1 (xa ++ xb).length x.2 (byts (xa ++ xb))) else pts bo 37 [ov]))) (Bs := [(5, some 13, bytesB xa), (12, none, bytesB xb), (13, some 14, bytesB (xa ++ xb))]) HM.out (fun L L' h => by show _ * (if L 14 then _ else _) = _ * (if L' 14 then _ else _); rw [h 14 (by decide)]) (show ([5, 12, 13] : List Nat).Nodup by decide) (by kernel_rfl) (by kernel_rfl) ?_ ?_
    · refine ⟨?_, ?_, ?_, ?_, ?_, ?_, ?_, ?_, ?_, ?_, ?_, ?_, ?_, ?_, ?_, trivial⟩
      · refine Fine2.run trivial _ rfl (fun _ => rfl) rfl rfl (fun L a w R' hw hm hmk hf => ?_)
        have e0 : a.eval (.tmp 0) = (.pointer (some ⟨bl, 0, none⟩) : Value) := (hf 0 (by decide +kernel)).old (by kernel_rfl)
        simp only [Act.eval, Array.getD_eq_getD_getElem?] at e0
        have hbx := hm.left.left.right
        have q0 := hbx.cell 0
        simp only [List.getElem?_cons_zero] at q0
        simp [execOp, resolve, invoke, builtin, go_sem, e0, q0]
      · refine Fine2.run trivial _ rfl (fun _ => rfl) rfl rfl (fun L a w R' hw hm hmk hf => ?_)
        have e10 : a.eval (.tmp 10) = (.pointer (some ⟨gl, 0, none⟩) : Value) := (hf 10 (by decide +kernel)).new 0 (by kernel_rfl) (by kernel_rfl)
        simp only [Act.eval, Array.getD_eq_getD_getElem?] at e10
        simp [execOp, resolve, invoke, builtin, go_sem, e10]
      · refine Fine2.run trivial _ rfl (fun _ => rfl) rfl rfl (fun L a w R' hw hm hmk hf => ?_)
        have e11 : a.eval (.tmp 11) = (.pointer (some ⟨gl, 0, none⟩) : Value) := (hf 11 (by decide +kernel)).new 1 (by kernel_rfl) (by kernel_rfl)
        simp only [Act.eval, Array.getD_eq_getD_getElem?] at e11
        simp [execOp, resolve, invoke, builtin, go_sem, e11]
      · refine Fine2.run trivial _ rfl (fun _ => rfl) rfl rfl (fun L a w R' hw hm hmk hf => ?_)
        have e12 : a.eval (.tmp 12) = (.pointer (some ⟨gl, 0, none⟩) : Value) := (hf 12 (by decide +kernel)).new 2 (by kernel_rfl) (by kernel_rfl)
        simp only [Act.eval, Array.getD_eq_getD_getElem?] at e12
        have hbx := hm.left.left
        have q0 := hbx.cell 0
        have q1 := hbx.cell 1
        simp only [List.getElem?_cons_zero, List.getElem?_cons_succ] at q0 q1
        simp [execOp, resolve, invoke, builtin, go_sem, e12, q0, q1]
      · refine Fine2.run trivial _ rfl (fun _ => rfl) rfl rfl (fun L a w R' hw hm hmk hf => ?_)
        have e3 : a.eval (.tmp 3) = (.int .i64 (ho : Int) : Value) := (hf 3 (by decide +kernel)).old (by kernel_rfl)
        simp only [Act.eval, Array.getD_eq_getD_getElem?] at e3
        simp [execOp, resolve, invoke, builtin, go_sem, e3]
      · refine Fine2.call trivial rfl 25 #[(.agg #[.pointer (some ⟨g, 0, none⟩), .int .i64 (p : Int)]), (.int .i64 (ho : Int))] (fun a w hf => ?_) (fun L a w R' hL hw hm hmk hf => ?_)
        · have e13 : a.eval (.tmp 13) = (.agg #[.pointer (some ⟨g, 0, none⟩), .int .i64 (p : Int)] : Value) := (hf 13 (by decide +kernel)).new 3 (by kernel_rfl) (by kernel_rfl)
          have e14 : a.eval (.tmp 14) = (.int .i64 (ho : Int) : Value) := (hf 14 (by decide +kernel)).new 4 (by kernel_rfl) (by kernel_rfl)
          simp only [Act.eval, Array.getD_eq_getD_getElem?] at e13 e14
          simp [execOp, resolve, invoke, go_sem, e13, e14]
        · have hm : Mem wb w ((pts gl 60 [.pointer (some ⟨g, 0, none⟩), .int .i64 (p : Int), er] * (pts bl 22 [.pointer (some ⟨gl, 0, none⟩)] * (pts bn 3 [.int .i64 (n : Int)] * (devAt T8 g D * R)))) * (if L 14 then (ex fun x : Option Addr × Nat => pts bo 37 [.slice x.1 (xa ++ xb).length x.2] * row 5 1 x.1 (xa ++ xb).length x.2 (byts (xa ++ xb))) else pts bo 37 [ov]) * R') := hm
          refine (HR1.out w (pts gl 60 [.pointer (some ⟨g, 0, none⟩), .int .i64 (p : Int), er] * (pts bl 22 [.pointer (some ⟨gl, 0, none⟩)] * (pts bn 3 [.int .i64 (n : Int)] * (R * ((if L 14 then (ex fun x : Option Addr × Nat => pts bo 37 [.slice x.1 (xa ++ xb).length x.2] * row 5 1 x.1 (xa ++ xb).length x.2 (byts (xa ++ xb))) else pts bo 37 [ov]) * R'))))) (hm.eq (by ac_rfl))).mono ?_
          intro e w' hs'
          obtain ⟨v, rfl, hm2⟩ := hs'.ok rfl
          obtain ⟨a2, c2, hv, -⟩ := Mem.rowB.1 hm2
          refine ⟨v, rfl, ⟨a2, c2, hv⟩, ?_⟩
          show Mem wb w' ((pts gl 60 [.pointer (some ⟨g, 0, none⟩), .int .i64 (p : Int), er] * (pts bl 22 [.pointer (some ⟨gl, 0, none⟩)] * (pts bn 3 [.int .i64 (n : Int)] * (devAt T8 g D * R)))) * (if doneSet L 5 14 then (ex fun x : Option Addr × Nat => pts bo 37 [.slice x.1 (xa ++ xb).length x.2] * row 5 1 x.1 (xa ++ xb).length x.2 (byts (xa ++ xb))) else pts bo 37 [ov]) * (bytesB xa v * R'))
          rw [show doneSet L 5 14 = L 14 from rfl]
          exact hm2.eq (by ac_rfl)
      · refine Fine2.run trivial _ rfl (fun _ => rfl) rfl rfl (fun L a w R' hw hm hmk hf => ?_)
        have e0 : a.eval (.tmp 0) = (.pointer (some ⟨bl, 0, none⟩) : Value) := (hf 0 (by decide +kernel)).old (by kernel_rfl)
        simp only [Act.eval, Array.getD_eq_getD_getElem?] at e0
        have hbx := hm.left.left.right
        have q0 := hbx.cell 0
        simp only [List.getElem?_cons_zero] at q0
        simp [execOp, resolve, invoke, builtin, go_sem, e0, q0]
      · refine Fine2.run trivial _ rfl (fun _ => rfl) rfl rfl (fun L a w R' hw hm hmk hf => ?_)
        have e16 : a.eval (.tmp 16) = (.pointer (some ⟨gl, 0, none⟩) : Value) := (hf 16 (by decide +kernel)).new 6 (by kernel_rfl) (by kernel_rfl)
        simp only [Act.eval, Array.getD_eq_getD_getElem?] at e16
        simp [execOp, resolve, invoke, builtin, go_sem, e16]
      · refine Fine2.run trivial _ rfl (fun _ => rfl) rfl rfl (fun L a w R' hw hm hmk hf => ?_)
        have e17 : a.eval (.tmp 17) = (.pointer (some ⟨gl, 0, none⟩) : Value) := (hf 17 (by decide +kernel)).new 7 (by kernel_rfl) (by kernel_rfl)
        simp only [Act.eval, Array.getD_eq_getD_getElem?] at e17
        simp [execOp, resolve, invoke, builtin, go_sem, e17]
      · refine Fine2.run trivial _ rfl (fun _ => rfl) rfl rfl (fun L a w R' hw hm hmk hf => ?_)
        have e18 : a.eval (.tmp 18) = (.pointer (some ⟨gl, 0, none⟩) : Value) := (hf 18 (by decide +kernel)).new 8 (by kernel_rfl) (by kernel_rfl)
        simp only [Act.eval, Array.getD_eq_getD_getElem?] at e18
        have hbx := hm.left.left
        have q0 := hbx.cell 0
        have q1 := hbx.cell 1
        simp only [List.getElem?_cons_zero, List.getElem?_cons_succ] at q0 q1
        simp [execOp, resolve, invoke, builtin, go_sem, e18, q0, q1]
      · refine Fine2.run trivial _ rfl (fun _ => rfl) rfl rfl (fun L a w R' hw hm hmk hf => ?_)
        have e3 : a.eval (.tmp 3) = (.int .i64 (ho : Int) : Value) := (hf 3 (by decide +kernel)).old (by kernel_rfl)
        simp only [Act.eval, Array.getD_eq_getD_getElem?] at e3
        simp [execOp, resolve, invoke, builtin, go_sem, e3]
      · refine Fine2.run trivial _ rfl (fun _ => rfl) rfl rfl (fun L a w R' hw hm hmk hf => ?_)
        have e20 : a.eval (.tmp 20) = (.int .i64 (ho : Int) : Value) := (hf 20 (by decide +kernel)).new 10 (by kernel_rfl) (by kernel_rfl)
        simp only [Act.eval, Array.getD_eq_getD_getElem?] at e20
        simp [execOp, resolve, invoke, builtin, go_sem, e20, WH]
      · refine Fine2.call trivial rfl 25 #[(.agg #[.pointer (some ⟨g, 0, none⟩), .int .i64 (p : Int)]), (.int .i64 ((ho : Int) + 1))] (fun a w hf => ?_) (fun L a w R' hL hw hm hmk hf => ?_)
        · have e19 : a.eval (.tmp 19) = (.agg #[.pointer (some ⟨g, 0, none⟩), .int .i64 (p : Int)] : Value) := (hf 19 (by decide +kernel)).new 9 (by kernel_rfl) (by kernel_rfl)
          have e21 : a.eval (.tmp 21) = (.int .i64 ((ho : Int) + 1) : Value) := (hf 21 (by decide +kernel)).new 11 (by kernel_rfl) (by kernel_rfl)
          simp only [Act.eval, Array.getD_eq_getD_getElem?] at e19 e21
          simp [execOp, resolve, invoke, go_sem, e19, e21]
        · have hm : Mem wb w ((pts gl 60 [.pointer (some ⟨g, 0, none⟩), .int .i64 (p : Int), er] * (pts bl 22 [.pointer (some ⟨gl, 0, none⟩)] * (pts bn 3 [.int .i64 (n : Int)] * (devAt T8 g D * R)))) * (if L 14 then (ex fun x : Option Addr × Nat => pts bo 37 [.slice x.1 (xa ++ xb).length x.2] * row 5 1 x.1 (xa ++ xb).length x.2 (byts (xa ++ xb))) else pts bo 37 [ov]) * R') := hm
          refine (HR2.out w (pts gl 60 [.pointer (some ⟨g, 0, none⟩), .int .i64 (p : Int), er] * (pts bl 22 [.pointer (some ⟨gl, 0, none⟩)] * (pts bn 3 [.int .i64 (n : Int)] * (R * ((if L 14 then (ex fun x : Option Addr × Nat => pts bo 37 [.slice x.1 (xa ++ xb).length x.2] * row 5 1 x.1 (xa ++ xb).length x.2 (byts (xa ++ xb))) else pts bo 37 [ov]) * R'))))) (hm.eq (by ac_rfl))).mono ?_
          intro e w' hs'
          obtain ⟨v, rfl, hm2⟩ := hs'.ok rfl
          obtain ⟨a2, c2, hv, -⟩ := Mem.rowB.1 hm2
          refine ⟨v, rfl, ⟨a2, c2, hv⟩, ?_⟩
          show Mem wb w' ((pts gl 60 [.pointer (some ⟨g, 0, none⟩), .int .i64 (p : Int), er] * (pts bl 22 [.pointer (some ⟨gl, 0, none⟩)] * (pts bn 3 [.int .i64 (n : Int)] * (devAt T8 g D * R)))) * (if doneSet L 12 14 then (ex fun x : Option Addr × Nat => pts bo 37 [.slice x.1 (xa ++ xb).length x.2] * row 5 1 x.1 (xa ++ xb).length x.2 (byts (xa ++ xb))) else pts bo 37 [ov]) * (bytesB xb v * R'))
          rw [show doneSet L 12 14 = L 14 from rfl]
          exact hm2.eq (by ac_rfl)
      · refine Fine2.open trivial (fun L a w R' hL hw hm hmk hf => ?_)
        have hm' : Mem wb w ((pts gl 60 [.pointer (some ⟨g, 0, none⟩), .int .i64 (p : Int), er] * (pts bl 22 [.pointer (some ⟨gl, 0, none⟩)] * (pts bn 3 [.int .i64 (n : Int)] * (devAt T8 g D * R)))) * (if L 14 then (ex fun x : Option Addr × Nat => pts bo 37 [.slice x.1 (xa ++ xb).length x.2] * row 5 1 x.1 (xa ++ xb).length x.2 (byts (xa ++ xb))) else pts bo 37 [ov]) * ((bytesB xa (a.eval (.tmp 15)) * (emp * (emp * emp))) * R')) := hm
        rw [sep_emp, sep_emp, sep_emp] at hm'
        obtain ⟨a1, c1, e15, m1⟩ := Mem.rowB.1 hm'.p1
        obtain ⟨R3, hR3⟩ := hmk [false, true, false] (by kernel_rfl)
        have hm2 := m1
        rw [hR3] at hm2
        obtain ⟨a2, c2, y, m2⟩ := Mem.rowB.1 (show Mem wb w (_ * (_ * (_ * R3))) from hm2).p2
        have e22 : a.eval (.tmp 22) = .slice a2 _ c2 := y
        have hsl := m2.row_sl
        obtain ⟨a3, c3, w', hr, hd, -, -⟩ := m1.append (P := Try.prog) 37 37 Try.underlying37 hi8 hz8 hs8 hb8 rfl (by omega) (by rw [byts_length]; omega) (news_sl hsl) (news_nil hsl) (byts_oneCell _) (by omega) (by omega)
        rw [← byts_append, ← List.length_append] at hd
        rw [← List.length_append] at hr
        refine ⟨.slice a3 (xa ++ xb).length c3, w', ?_, ⟨a3, c3, rfl⟩, ?_⟩
        · have e15 : a.eval (.tmp 15) = .slice a1 xa.length c1 := e15
          have e22 : a.eval (.tmp 22) = .slice a2 xb.length c2 := e22
          simp [execOp, resolve, invoke, builtin, e15, e22, hr, Result.andThen]
        · show Mem wb w' ((pts gl 60 [.pointer (some ⟨g, 0, none⟩), .int .i64 (p : Int), er] * (pts bl 22 [.pointer (some ⟨gl, 0, none⟩)] * (pts bn 3 [.int .i64 (n : Int)] * (devAt T8 g D * R)))) * (if doneSet L 13 14 then (ex fun x : Option Addr × Nat => pts bo 37 [.slice x.1 (xa ++ xb).length x.2] * row 5 1 x.1 (xa ++ xb).length x.2 (byts (xa ++ xb))) else pts bo 37 [ov]) * (bytesB (xa ++ xb) (.slice a3 (xa ++ xb).length c3) * R'))
          rw [show doneSet L 13 14 = L 14 from rfl]
          have h9 : Mem wb w' (bytesB (xa ++ xb) (.slice a3 (xa ++ xb).length c3) * ((pts gl 60 [.pointer (some ⟨g, 0, none⟩), .int .i64 (p : Int), er] * (pts bl 22 [.pointer (some ⟨gl, 0, none⟩)] * (pts bn 3 [.int .i64 (n : Int)] * (devAt T8 g D * R)))) * (if L 14 then (ex fun x : Option Addr × Nat => pts bo 37 [.slice x.1 (xa ++ xb).length x.2] * row 5 1 x.1 (xa ++ xb).length x.2 (byts (xa ++ xb))) else pts bo 37 [ov]) * R')) := Mem.rowB.2 ⟨a3, c3, rfl, hd.duo_row⟩
          exact h9.eq (by ac_rfl)
      · refine Fine2.store trivial rfl (fun L a w R' hL hw hm hmk hf => ?_)
        have hm' : Mem wb w ((pts gl 60 [.pointer (some ⟨g, 0, none⟩), .int .i64 (p : Int), er] * (pts bl 22 [.pointer (some ⟨gl, 0, none⟩)] * (pts bn 3 [.int .i64 (n : Int)] * (devAt T8 g D * R)))) * (if L 14 then (ex fun x : Option Addr × Nat => pts bo 37 [.slice x.1 (xa ++ xb).length x.2] * row 5 1 x.1 (xa ++ xb).length x.2 (byts (xa ++ xb))) else pts bo 37 [ov]) * ((emp * (emp * (bytesB (xa ++ xb) (a.eval (.tmp 23)) * emp))) * R')) := hm
        rw [hL, emp_sep, emp_sep, sep_emp] at hm'
        have hm' : Mem wb w ((pts gl 60 [.pointer (some ⟨g, 0, none⟩), .int .i64 (p : Int), er] * (pts bl 22 [.pointer (some ⟨gl, 0, none⟩)] * (pts bn 3 [.int .i64 (n : Int)] * (devAt T8 g D * R)))) * pts bo 37 [ov] * (bytesB (xa ++ xb) (a.eval (.tmp 23)) * R')) := hm'
        obtain ⟨a3, c3, e23, m1⟩ := Mem.rowB.1 hm'.p1
        have hb := m1.eq (by ac_rfl : _ = pts bo 37 [ov] * (row 5 1 a3 (xa ++ xb).length c3 (byts (xa ++ xb)) * ((pts gl 60 [.pointer (some ⟨g, 0, none⟩), .int .i64 (p : Int), er] * (pts bl 22 [.pointer (some ⟨gl, 0, none⟩)] * (pts bn 3 [.int .i64 (n : Int)] * (devAt T8 g D * R)))) * R')))
        have c0 := hb.cell 0
        have f0 := hb.frozen 0
        simp only [List.getElem?_cons_zero] at c0
        have hs2 := hb.setCell 0 (.slice a3 (xa ++ xb).length c3)
        have e2 : a.eval (.tmp 2) = (.pointer (some ⟨bo, 0, none⟩) : Value) := (hf 2 (by decide +kernel)).old (by kernel_rfl)
        simp only [Act.eval, Array.getD_eq_getD_getElem?] at e2 e23
        refine ⟨w.setCell ⟨bo, 0, none⟩ (.slice a3 (xa ++ xb).length c3), ?_, ?_⟩
        · simp only [execOp, go_sem]
          simp [go_sem, e2, e23, c0, f0]
        · show Mem wb _ ((pts gl 60 [.pointer (some ⟨g, 0, none⟩), .int .i64 (p : Int), er] * (pts bl 22 [.pointer (some ⟨gl, 0, none⟩)] * (pts bn 3 [.int .i64 (n : Int)] * (devAt T8 g D * R)))) * (if doneSet L 14 14 then (ex fun x : Option Addr × Nat => pts bo 37 [.slice x.1 (xa ++ xb).length x.2] * row 5 1 x.1 (xa ++ xb).length x.2 (byts (xa ++ xb))) else pts bo 37 [ov]) * (emp * R'))
          rw [show doneSet L 14 14 = true from rfl, emp_sep]
          show Mem wb _ ((pts gl 60 [.pointer (some ⟨g, 0, none⟩), .int .i64 (p : Int), er] * (pts bl 22 [.pointer (some ⟨gl, 0, none⟩)] * (pts bn 3 [.int .i64 (n : Int)] * (devAt T8 g D * R)))) * (ex fun x : Option Addr × Nat => pts bo 37 [.slice x.1 (xa ++ xb).length x.2] * row 5 1 x.1 (xa ++ xb).length x.2 (byts (xa ++ xb))) * R')
          have h9 : Mem wb (w.setCell ⟨bo, 0, none⟩ (.slice a3 (xa ++ xb).length c3)) ((ex fun x : Option Addr × Nat => pts bo 37 [.slice x.1 (xa ++ xb).length x.2] * row 5 1 x.1 (xa ++ xb).length x.2 (byts (xa ++ xb))) * ((pts gl 60 [.pointer (some ⟨g, 0, none⟩), .int .i64 (p : Int), er] * (pts bl 22 [.pointer (some ⟨gl, 0, none⟩)] * (pts bn 3 [.int .i64 (n : Int)] * (devAt T8 g D * R)))) * R')) := Mem.exl.2 ⟨(a3, c3), hs2.eq (by simp only [List.set_cons_zero]; ac_rfl)⟩
          exact h9.eq (by ac_rfl)
    · intro u w9 hu hm9
      have hm8 : Mem wb w9 ((pts gl 60 [.pointer (some ⟨g, 0, none⟩), .int .i64 (p : Int), er] * (pts bl 22 [.pointer (some ⟨gl, 0, none⟩)] * (pts bn 3 [.int .i64 (n : Int)] * (devAt T8 g D * R)))) * (ex fun x : Option Addr × Nat => pts bo 37 [.slice x.1 (xa ++ xb).length x.2] * row 5 1 x.1 (xa ++ xb).length x.2 (byts (xa ++ xb)))) := hm9.left
      have HF := hid hm8
      simp only [putAll]
      clear hm9 hm8 hu HM HM2 WH hi8 hz8 hs8 hb8 hxa hxb
      go_simp
      go_end0
      exact ⟨rfl, trivial, by have := HX.out; simp [this.1, this.2], HF.out⟩
end Go.Proofs.Ytpaebopmppbjbaa
