/- The walks of wal's Commit. -/
import Derived.Test.YtpaebopmppbjbaaWal18
set_option linter.unusedVariables false
set_option linter.unusedSimpArgs false
namespace Go.Proofs.Ytpaebopmppbjbaa
open Go Go.RowKit Go.Le

set_option maxRecDepth 20000 in
set_option maxHeartbeats 4000000 in
theorem Commit2_any (wb w0 : World) (R : HP) (g gl bl bs p n b c : Nat) (er : Value) (zs : List Pz) (D : Dev) (h : Mem wb w0 (devAt T8 g D * (logB g p er gl * (pts bl 22 [.pointer (some ⟨gl, 0, none⟩)] * (pts bs 68 [.slice (some ⟨b, 0, none⟩) n c] * R))))) (hpl : D.pend.length ≤ 800000000) (hp : p ≤ 250) (hn : zs.length = n) (hn2 : n ≤ 250)
    (hz : ∀ z ∈ zs, z.1.1 < p ∧ z.1.2.length = 1024) (hs : ∀ w', Mem wb w' R → Pgs w' b zs ∧ ∀ z ∈ zs, Sl w' z.2.1 1024 z.2.2 (byts z.1.2)) :
    Calls Try.prog 53 #[.pointer (some ⟨bl, 0, none⟩), .pointer (some ⟨bs, 0, none⟩)] w0 (IoSays wb g (logB g p er gl * (pts bl 22 [.pointer (some ⟨gl, 0, none⟩)] * (pts bs 68 [.slice (some ⟨b, 0, none⟩) n c] * R))) (ioCommit p (zs.map (·.1)) D) unitB) := by
  have HM := hid h
  have HC : Hid (∀ w R', Mem wb w (devAt T8 g D * R') → (∀ w', Mem wb w' R' → Mem wb w' R) → Calls Try.prog 54 #[(.agg #[.pointer (some ⟨g, 0, none⟩), .int .i64 (p : Int)]), (.slice (some ⟨b, 0, none⟩) n c)] w (IoSays wb g R' (ioCommit p (zs.map (·.1)) D) unitB)) := by
    show ∀ w R', _
    intro w R' h1 h2
    refine commit_any wb w R' g p n b c zs D h1 hpl hp hn hn2 hz (fun w' h' k z hzk => ?_)
    obtain ⟨h3, h4⟩ := hs w' (h2 w' h')
    obtain ⟨h5, h6⟩ := h3 k z hzk
    have hzm := List.mem_of_getElem? hzk
    rw [(hz z hzm).2] at h6
    exact ⟨h5, h6, h4 z hzm⟩
  obtain ⟨rb, HRB⟩ : ∃ r, Hid (ioCommit p (zs.map (·.1)) D = r) := ⟨_, hid rfl⟩
  rw [HRB.out] at HC
  clear h hs hz
  go_enter Try.func53, Try.ntmps53
  go_wp2_with fail
  refine region_mem (by kernel_rfl) (V := fun jv x => match jv with | 0 => x = (.pointer (some ⟨gl, 0, none⟩) : Value) | 1 => x = (.pointer (some ⟨gl, 0, none⟩) : Value) | 2 => x = (.pointer (some ⟨gl, 0, none⟩) : Value) | 3 => x = (.agg #[.pointer (some ⟨g, 0, none⟩), .int .i64 (p : Int)] : Value) | 4 => x = (.slice (some ⟨b, 0, none⟩) n c : Value) | 5 => ∃ D2, x = (.tuple #[] : Value) ∧ rb = (Except.ok (), D2) | _ => True) (A := (fun L => (if L 5 then devAt T8 g rb.2 else devAt T8 g D) * (logB g p er gl * (pts bl 22 [.pointer (some ⟨gl, 0, none⟩)] * (pts bs 68 [.slice (some ⟨b, 0, none⟩) n c] * R))))) (Bs := []) HM.out (fun L L' h => by show (if L 5 then _ else _) * _ = (if L' 5 then _ else _) * _; rw [h 5 (by decide)]) (show ([] : List Nat).Nodup by decide) (by kernel_rfl) (by kernel_rfl) ?_ ?_
  · refine ⟨?_, ?_, ?_, ?_, ?_, ?_, trivial⟩
    · refine Fine2.run trivial _ rfl (fun _ => rfl) rfl rfl (fun L a w R' hw hm hmk hf => ?_)
      have e0 : a.eval (.tmp 0) = (.pointer (some ⟨bl, 0, none⟩) : Value) := (hf 0 (by decide +kernel)).old (by kernel_rfl)
      simp only [Act.eval, Array.getD_eq_getD_getElem?] at e0
      have hbx := hm.left.right.right
      have q0 := hbx.cell 0
      simp only [List.getElem?_cons_zero, List.getElem?_cons_succ] at q0
      simp [execOp, resolve, invoke, builtin, go_sem, e0, q0]
    · refine Fine2.run trivial _ rfl (fun _ => rfl) rfl rfl (fun L a w R' hw hm hmk hf => ?_)
      have e2 : a.eval (.tmp 2) = (.pointer (some ⟨gl, 0, none⟩) : Value) := (hf 2 (by decide +kernel)).new 0 (by kernel_rfl) (by kernel_rfl)
      simp only [Act.eval, Array.getD_eq_getD_getElem?] at e2
      simp [execOp, resolve, invoke, builtin, go_sem, e2]
    · refine Fine2.run trivial _ rfl (fun _ => rfl) rfl rfl (fun L a w R' hw hm hmk hf => ?_)
      have e3 : a.eval (.tmp 3) = (.pointer (some ⟨gl, 0, none⟩) : Value) := (hf 3 (by decide +kernel)).new 1 (by kernel_rfl) (by kernel_rfl)
      simp only [Act.eval, Array.getD_eq_getD_getElem?] at e3
      simp [execOp, resolve, invoke, builtin, go_sem, e3]
    · refine Fine2.run trivial _ rfl (fun _ => rfl) rfl rfl (fun L a w R' hw hm hmk hf => ?_)
      have e4 : a.eval (.tmp 4) = (.pointer (some ⟨gl, 0, none⟩) : Value) := (hf 4 (by decide +kernel)).new 2 (by kernel_rfl) (by kernel_rfl)
      simp only [Act.eval, Array.getD_eq_getD_getElem?] at e4
      have hbx := hm.left.right
      unfold logB at hbx
      have q0 := hbx.cell 0
      have q1 := hbx.cell 1
      simp only [List.getElem?_cons_zero, List.getElem?_cons_succ] at q0 q1
      simp [execOp, resolve, invoke, builtin, go_sem, e4, q0, q1]
    · refine Fine2.run trivial _ rfl (fun _ => rfl) rfl rfl (fun L a w R' hw hm hmk hf => ?_)
      have e1 : a.eval (.tmp 1) = (.pointer (some ⟨bs, 0, none⟩) : Value) := (hf 1 (by decide +kernel)).old (by kernel_rfl)
      simp only [Act.eval, Array.getD_eq_getD_getElem?] at e1
      have hbx := hm.left.right.right.right
      have q0 := hbx.cell 0
      simp only [List.getElem?_cons_zero, List.getElem?_cons_succ] at q0
      simp [execOp, resolve, invoke, builtin, go_sem, e1, q0]
    · refine Fine2.callP trivial rfl 54 #[(.agg #[.pointer (some ⟨g, 0, none⟩), .int .i64 (p : Int)]), (.slice (some ⟨b, 0, none⟩) n c)] (fun a w hf => ?_) (fun L a w R' hL hw hm hmk hf hdf hcl => ?_)
      · have e5 : a.eval (.tmp 5) = (.agg #[.pointer (some ⟨g, 0, none⟩), .int .i64 (p : Int)] : Value) := (hf 5 (by decide +kernel)).new 3 (by kernel_rfl) (by kernel_rfl)
        have e6 : a.eval (.tmp 6) = (.slice (some ⟨b, 0, none⟩) n c : Value) := (hf 6 (by decide +kernel)).new 4 (by kernel_rfl) (by kernel_rfl)
        simp only [Act.eval, Array.getD_eq_getD_getElem?] at e5 e6
        simp [execOp, resolve, invoke, go_sem, e5, e6]
      · have hm : Mem wb w ((if L 5 then devAt T8 g rb.2 else devAt T8 g D) * (logB g p er gl * (pts bl 22 [.pointer (some ⟨gl, 0, none⟩)] * (pts bs 68 [.slice (some ⟨b, 0, none⟩) n c] * R))) * R') := hm
        rw [hL] at hm
        have hm : Mem wb w (devAt T8 g D * (logB g p er gl * (pts bl 22 [.pointer (some ⟨gl, 0, none⟩)] * (pts bs 68 [.slice (some ⟨b, 0, none⟩) n c] * R))) * R') := hm
        refine (HC.out w (logB g p er gl * (pts bl 22 [.pointer (some ⟨gl, 0, none⟩)] * (pts bs 68 [.slice (some ⟨b, 0, none⟩) n c] * R)) * R') (hm.eq (by ac_rfl)) (fun w' h' => (h'.eq (by ac_rfl : _ = (logB g p er gl * (pts bl 22 [.pointer (some ⟨gl, 0, none⟩)] * (pts bs 68 [.slice (some ⟨b, 0, none⟩) n c] * R'))) * R)).right)).mono ?_
        intro e w' hs'
        rcases hrb : rb with ⟨c1 | u1, D2⟩
        · rw [hrb] at hs'
          obtain ⟨rfl, hc, hm2⟩ := hs'.error rfl
          exact .inr ⟨_, rfl, hdf, IoSays.mkError (HRB.out.trans hrb) hc (hm2.eq (by ac_rfl) : Mem wb w' (R' * (devAt T8 g D2 * (logB g p er gl * (pts bl 22 [.pointer (some ⟨gl, 0, none⟩)] * (pts bs 68 [.slice (some ⟨b, 0, none⟩) n c] * R)))))).right⟩
        · rw [hrb] at hs'
          obtain ⟨rfl, hm2⟩ := hs'.unit rfl
          refine .inl ⟨_, rfl, ⟨D2, rfl, rfl⟩, ?_⟩
          show Mem wb w' ((if doneSet L 5 5 then devAt T8 g (Except.ok (), D2).2 else devAt T8 g D) * (logB g p er gl * (pts bl 22 [.pointer (some ⟨gl, 0, none⟩)] * (pts bs 68 [.slice (some ⟨b, 0, none⟩) n c] * R))) * (emp * R'))
          rw [show doneSet L 5 5 = true from rfl, emp_sep]
          exact hm2.eq (by show _ = devAt T8 g D2 * (logB g p er gl * (pts bl 22 [.pointer (some ⟨gl, 0, none⟩)] * (pts bs 68 [.slice (some ⟨b, 0, none⟩) n c] * R))) * R'; ac_rfl)
  · intro u w9 hu hm9
    obtain ⟨D2, hu7, hrb⟩ := hu 7 5 rfl
    have hm8 := hm9.left
    rw [hrb] at hm8
    have HM8 : Hid (Mem wb w9 (devAt T8 g D2 * (logB g p er gl * (pts bl 22 [.pointer (some ⟨gl, 0, none⟩)] * (pts bs 68 [.slice (some ⟨b, 0, none⟩) n c] * R))))) := hm8
    have HRC := hid (HRB.out.trans hrb)
    simp only [putAll]
    clear hm9 hm8 hu hrb HRB HC HM
    go_simp
    go_wp2_with fail
    go_end0
    exact IoSays.mkUnit HRC.out HM8.out

theorem enters53 (args : Array Value) (w : World) : (callFunc 53 args).run Try.prog w = .ok (.enter 53 args) w :=
  enters_body Try.func53 (by kernel_rfl) rfl args w
/-- what Commit answers, where the list is in order -/
def CommitSays (wb : World) (g p gl : Nat) (R : HP) (res : Except Int Unit × Dev) (e : Ending) (w' : World) : Prop :=
  match res with
  | (.ok _, D') => e = .returned .nilIface ∧ Mem wb w' (logB g p .nilIface gl * (devAt T8 g D' * R))
  | (.error c, D') => ∃ v, e = .returned v ∧ c ≠ 0 ∧ Mem wb w' (faultB ⟨#[67, 111, 109, 109, 105, 116]⟩ 0 c v * (logB g p v gl * (devAt T8 g D' * R)))
def commitB (g p : Nat) (L : List (Nat × List UInt8)) (D : Dev) (X : HP) (c : Int) : HP := ex fun D' : Dev => pur (ioCommit p L D = ((if c = 0 then .ok () else .error c), D')) * (devAt T8 g D' * X)

set_option maxRecDepth 20000 in
set_option maxHeartbeats 8000000 in
theorem Commit_any (wb w0 : World) (R : HP) (g gl p n b c : Nat) (zs zs' : List Pz) (D : Dev) (h : Mem wb w0 (logB g p .nilIface gl * (devAt T8 g D * R))) (hpl : D.pend.length ≤ 800000000) (hp : p ≤ 250) (hn : zs.length = n) (hn2 : n ≤ 250) (hn0 : 0 < n)
    (hask : askedFrom p 0 [] (zs.map fun z => ((z.1.1 : Int), z.1.2.length)) = (0, 0)) (hz : ∀ z ∈ zs, z.1.1 < p ∧ z.1.2.length = 1024) (hs : ∀ w', Mem wb w' R → Pgs w' b zs ∧ ∀ z ∈ zs, Sl w' z.2.1 1024 z.2.2 (byts z.1.2)) (hn' : zs'.length = n) (hsub : ∀ z ∈ zs', z ∈ zs)
    (hsort : ∀ w R' b2 c2, Mem wb w (row 98 2 (some ⟨b2, 0, none⟩) n c2 (pzCells zs) * R') → Calls Try.prog 51 #[.slice (some ⟨b2, 0, none⟩) n c2, .func (.func 52) #[] #[]] w fun e w' => e = .returned (.tuple #[]) ∧ Mem wb w' (row 98 2 (some ⟨b2, 0, none⟩) n c2 (pzCells zs') * R')) :
    Calls Try.prog 31 #[.pointer (some ⟨gl, 0, none⟩), (.slice (some ⟨b, 0, none⟩) n c)] w0 (CommitSays wb g p gl R (ioCommit p (zs'.map (·.1)) D)) := by
  have hmf : ∀ (fn : Fn) (first cap : Array Value) (w : World), (Instr.makeFunc fn first cap).run Try.prog w = .ok (.func fn first cap) w := fun _ _ _ _ => rfl
  have h1 := h.alloc [.pointer (some ⟨gl, 0, none⟩)] 22
  have hm0 := h1.eq (by unfold logB; ac_rfl : _ = pts gl 60 [.pointer (some ⟨g, 0, none⟩), .int .i64 (p : Int), .nilIface] * (pts w0.heap.size 22 [.pointer (some ⟨gl, 0, none⟩)] * (devAt T8 g D * R)))
  have q2 := hm0.cell 2
  have c0 := hm0.right.cell 0
  simp only [List.getElem?_cons_zero, List.getElem?_cons_succ] at q2 c0
  have HS : Hid (∀ w', Mem wb w' R → Pgs w' b zs ∧ ∀ z ∈ zs, Sl w' z.2.1 1024 z.2.2 (byts z.1.2)) := hs
  have HAS := hid (wasked_any wb _ _ g gl p n b c (some ⟨b, 0, none⟩) .nilIface (zs.map fun z => ((z.1.1 : Int), z.2.1, z.1.2.length, z.2.2)) hm0 hp (by rw [List.length_map, hn]) (by omega) (fun _ => rfl) (fun w' h' k z hzk => by
    obtain ⟨h3, -⟩ := HS.out w' h'.right.right
    rw [List.getElem?_map] at hzk
    obtain ⟨z0, hz0, rfl⟩ := Option.map_eq_some_iff.1 hzk
    exact h3 k z0 hz0))
  rw [List.map_map] at HAS
  rw [show ((fun z : Int × Option Addr × Nat × Nat => (z.1, z.2.2.1)) ∘ fun z : Pz => ((z.1.1 : Int), z.2.1, z.1.2.length, z.2.2)) = fun z : Pz => ((z.1.1 : Int), z.1.2.length) from rfl, hask] at HAS
  have HZ : Hid (∀ z ∈ zs, z.1.1 < p ∧ z.1.2.length = 1024) := hz
  have HSUB : Hid (∀ z ∈ zs', z ∈ zs) := hsub
  have HSO : Hid (∀ w R' b2 c2, Mem wb w (row 98 2 (some ⟨b2, 0, none⟩) n c2 (pzCells zs) * R') → Calls Try.prog 51 #[.slice (some ⟨b2, 0, none⟩) n c2, .func (.func 52) #[] #[]] w fun e w' => e = .returned (.tuple #[]) ∧ Mem wb w' (row 98 2 (some ⟨b2, 0, none⟩) n c2 (pzCells zs') * R')) := hsort
  have hni : ¬ (n : Int) = 0 := by omega
  have hnb : ((n : Int) == 0) = false := by simpa using hni
  clear h h1 hm0 hs hz hsub hsort hask
  go_enter Try.func31, Try.ntmps31
  go_wp2_with fail
  refine HAS.out.mono ?_
  rintro e w1 ⟨rfl, hm1⟩
  dsimp only
  have HM1 := hid hm1
  have HCL := hid (PwClone_any wb w1 _ hm1 b n c zs hn (by omega) hn0 (HS.out w1 hm1.right.right.right).1)
  clear HAS hm1
  go_wp2_with fail
  refine HCL.out.mono ?_
  rintro e w2 ⟨b2, c2, rfl, hm2⟩
  dsimp only
  have hm3 := hm2.alloc [.slice (some ⟨b2, 0, none⟩) n c2] 68
  have k0 := hm3.cell 0
  simp only [List.getElem?_cons_zero] at k0
  have HST := hid (HSO.out _ _ b2 c2 hm3.p1)
  clear HCL hm2 hm3 HM1
  go_wp2_with fail
  refine HST.out.mono ?_
  rintro e w3 ⟨rfl, hm4⟩
  dsimp only
  have HCA := hid (caught_any wb w3 (devAt T8 g D * (logB g p .nilIface gl * (pts w0.heap.size 22 [.pointer (some ⟨gl, 0, none⟩)] * (pts w2.heap.size 68 [.slice (some ⟨b2, 0, none⟩) n c2] * (row 98 2 (some ⟨b2, 0, none⟩) n c2 (pzCells zs') * R))))) (commitB g p (zs'.map (·.1)) D (logB g p .nilIface gl * (pts w0.heap.size 22 [.pointer (some ⟨gl, 0, none⟩)] * (pts w2.heap.size 68 [.slice (some ⟨b2, 0, none⟩) n c2] * (row 98 2 (some ⟨b2, 0, none⟩) n c2 (pzCells zs') * R))))) emp (hm4.eq (by unfold logB; rw [sep_emp]; ac_rfl)) 53 #[.pointer (some ⟨w0.heap.size, 0, none⟩), .pointer (some ⟨w2.heap.size, 0, none⟩)] (fun w => enters53 _ w)
    (fun w1 R1 hm1 => (Commit2_any wb w1 (row 98 2 (some ⟨b2, 0, none⟩) n c2 (pzCells zs') * (R * R1)) g gl w0.heap.size w2.heap.size p n b2 c2 .nilIface zs' D (hm1.eq (by ac_rfl)) hpl hp hn' hn2 (fun z hz => HZ.out z (HSUB.out z hz)) (fun w' h' => ⟨h'.pgs, fun z hz => (HS.out w' h'.right.left).2 z (HSUB.out z hz)⟩)).mono fun e w2 hs => by
      obtain ⟨r, hr⟩ : ∃ r, ioCommit p (zs'.map (·.1)) D = r := ⟨_, rfl⟩
      rw [hr] at hs
      rcases r with ⟨c | u, D'⟩
      · obtain ⟨rfl, hc, hm⟩ := hs.error rfl
        refine .inr ⟨c, rfl, hc, ?_⟩
        unfold commitB
        rw [Mem.exl]
        refine ⟨D', ?_⟩
        rw [sep_assoc, Mem.pur, if_neg hc]
        exact ⟨hr, hm.eq (by ac_rfl)⟩
      · obtain ⟨rfl, hm⟩ := hs.unit rfl
        refine .inl ⟨rfl, ?_⟩
        unfold commitB
        rw [Mem.exl]
        refine ⟨D', ?_⟩
        rw [sep_assoc, Mem.pur, if_pos rfl]
        exact ⟨hr, hm.eq (by ac_rfl)⟩))
  have k0 := hm4.right.cell 0
  have c0 := ((hm4.eq (by unfold logB; ac_rfl : _ = pts w0.heap.size 22 [.pointer (some ⟨gl, 0, none⟩)] * (row 98 2 (some ⟨b2, 0, none⟩) n c2 (pzCells zs') * (pts w2.heap.size 68 [.slice (some ⟨b2, 0, none⟩) n c2] * (logB g p .nilIface gl * (devAt T8 g D * R))))))).cell 0
  simp only [List.getElem?_cons_zero, List.getElem?_cons_succ] at k0 c0
  clear HST hm4
  go_wp2_with fail
  refine HCA.out.mono ?_
  rintro e w4 ⟨cc, rfl, hm⟩
  dsimp only
  clear HCA
  unfold commitB at hm
  obtain ⟨D', hm1⟩ := Mem.exl.1 hm
  rw [sep_assoc, Mem.pur] at hm1
  obtain ⟨hio, hm2⟩ := hm1
  clear hm
  by_cases hc : cc = 0
  · subst hc
    rw [if_pos rfl] at hio
    have HIO := hid hio
    have HM := hid ((hm2.eq (by rw [sep_emp]; unfold logB; ac_rfl : _ = (pts w0.heap.size 22 [.pointer (some ⟨gl, 0, none⟩)] * (pts w2.heap.size 68 [.slice (some ⟨b2, 0, none⟩) n c2] * row 98 2 (some ⟨b2, 0, none⟩) n c2 (pzCells zs'))) * (logB g p .nilIface gl * (devAt T8 g D' * R)))).right)
    clear hm2 hio
    go_wp2_with fail
    go_ret
    rw [HIO.out]
    exact ⟨rfl, HM.out⟩
  · rw [if_neg hc] at hio
    have HIO := hid hio
    have HC := hid hc
    have hcn : (cc != 0) = true := by simpa using hc
    have hm5 := hm2.eq (by rw [sep_emp]; unfold logB; ac_rfl : _ = pts w0.heap.size 22 [.pointer (some ⟨gl, 0, none⟩)] * (logB g p .nilIface gl * ((pts w2.heap.size 68 [.slice (some ⟨b2, 0, none⟩) n c2] * row 98 2 (some ⟨b2, 0, none⟩) n c2 (pzCells zs')) * (devAt T8 g D' * R))))
    have c1 := hm5.cell 0
    simp only [List.getElem?_cons_zero] at c1
    have HEN := hid (ends_any wb w4 _ g p gl .nilIface hm5.p1 ⟨#[67, 111, 109, 109, 105, 116]⟩ cc)
    clear hm2 hm5 hio hc
    go_wp2_with fail
    refine HEN.out.mono ?_
    rintro e w5 ⟨v, rfl, hm6⟩
    dsimp only
    have HM := hid ((hm6.eq (by ac_rfl : _ = (pts w0.heap.size 22 [.pointer (some ⟨gl, 0, none⟩)] * (pts w2.heap.size 68 [.slice (some ⟨b2, 0, none⟩) n c2] * row 98 2 (some ⟨b2, 0, none⟩) n c2 (pzCells zs'))) * (faultB ⟨#[67, 111, 109, 109, 105, 116]⟩ 0 cc v * (logB g p v gl * (devAt T8 g D' * R))))).right)
    clear hm6
    go_wp2_with fail
    go_ret
    rw [HIO.out]
    exact ⟨_, rfl, HC.out, HM.out⟩
end Go.Proofs.Ytpaebopmppbjbaa
