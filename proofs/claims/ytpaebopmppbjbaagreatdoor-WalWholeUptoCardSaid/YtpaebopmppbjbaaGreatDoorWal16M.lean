import Derived.Test.YtpaebopmppbjbaaGreatDoorWal10M
import Derived.Lib.SliceRun
/- The walk of wal's commit. -/
set_option linter.unusedVariables false
set_option linter.unusedSimpArgs false
namespace Go.Le
open Go Go.RowKit
/-- a bit set in a byte -/
theorem or_u8 (x : UInt8) (r : Nat) (hr : r < 8) : bits .or .u8 (x.toNat : Int) ((UInt8.ofNat (2 ^ r)).toNat : Int) = (((x ||| UInt8.ofNat (2 ^ r)).toNat : Nat) : Int) := by
  have : ∀ (x : Fin 256) (r : Fin 8), bits .or .u8 ((UInt8.ofNat x.val).toNat : Int) ((UInt8.ofNat (2 ^ r.val)).toNat : Int) = ((((UInt8.ofNat x.val) ||| UInt8.ofNat (2 ^ r.val)).toNat : Nat) : Int) := by decide +kernel
  have h := this ⟨x.toNat, UInt8.toNat_lt _⟩ ⟨r, hr⟩
  simpa using h
theorem shl_u8 (r : Nat) (hr : r < 8) : IntKind.u8.wrap ((1 : Int) * 2 ^ r) = ((UInt8.ofNat (2 ^ r)).toNat : Int) := by
  have : ∀ r : Fin 8, IntKind.u8.wrap ((1 : Int) * 2 ^ r.val) = ((UInt8.ofNat (2 ^ r.val)).toNat : Int) := by decide +kernel
  exact this ⟨r, hr⟩

section
variable {P : Program} {Q : Exit → Act → World → Prop} {wb : World} {A : (Nat → Bool) → HP} {V : Vals} {Bs : List (Nat × Option Nat × (Value → HP))} {a0 : Act} {w0 : World} {l : List Oper}
/-- an operation that reads what a later one turns -/
theorem Fine2.runC {i : Nat} {o : Oper} (hst : Stands l V o) (v : Value) (hv : V i v) (hAi : ∀ L, A (doneSet L i) = A L) (hB : Go.Le.mk Bs i v = emp) (hE : (Bs.all fun x => x.2.1 != some i) = true)
    (h : ∀ L a w R, L i = false → (∀ j, waits .any o j = true → L j = true) → Mem wb w (A L * R) → (∀ m : List Bool, (sel m Bs).all (fun x => waits .any o x.1 && x.2.1.isNone) = true → ∃ R', R = stars ((sel m Bs).map fun x => x.2.2 (valOf l a x.1)) R') → (∀ d ∈ o.looksAt l.toArray, See l V a0 o a d) → (∀ j o', l[j]? = some o' → L j = true → ∀ k, waits .any o' k = true → L k = true) → (execOp a.eval o).run P w = .ok (.value v) w) : Fine2 P Q wb A V Bs a0 l i o := by
  refine .inl ⟨hst, fun L a w K R hL hw hm hmk hf hdf hcl hK => ?_⟩
  rw [eaten_none hE, emp_sep] at hm
  unfold Oper.wp
  rw [h L a w R hL hw hm hmk hf hcl]
  refine hK v w hv ?_
  rw [hAi, hB, emp_sep]
  exact hm
end
/-- commit, from the parts on -/
def ioC6 (L : List (Nat × List UInt8)) : Io Unit := (ioWrite 0 sect0).and fun _ => (ioBlank L).and fun _ => ioFlush
def ioC4 (p : Nat) (L : List (Nat × List UInt8)) (m : List UInt8) : Io Unit := (ioHomes p L).and fun _ => ioFlush.and fun _ => (ioFalls m).and fun _ => ioC6 L
def ioC1 (p : Nat) (L : List (Nat × List UInt8)) (m : List UInt8) : Io Unit := ioFlush.and fun _ => (ioWrite 0 (m.set 511 1)).and fun _ => ioFlush.and fun _ => ioC4 p L (m.set 511 1)
end Go.Le
namespace Go.Proofs.YtpaebopmppbjbaaGreatDoor
open Go Go.RowKit Go.Le

set_option maxRecDepth 20000 in
set_option maxHeartbeats 8000000 in
theorem commit_any (wb w0 : World) (R : HP) (g p n b c : Nat) (zs : List Pz) (D : Dev) (h : Mem wb w0 (devAt T8 g D * R)) (hpl : D.pend.length ≤ 800000000) (hp : p ≤ 250) (hn : zs.length = n) (hn2 : n ≤ 250)
    (hz : ∀ z ∈ zs, z.1.1 < p ∧ z.1.2.length = 1024)
    (hs : ∀ w', Mem wb w' R → ∀ k z, zs[k]? = some z → w'.cell? ⟨b, k * 2, none⟩ = some (.int .i64 (z.1.1 : Int)) ∧ w'.cell? ⟨b, k * 2 + 1, none⟩ = some (.slice z.2.1 1024 z.2.2) ∧ Sl w' z.2.1 1024 z.2.2 (byts z.1.2)) :
    Calls Tryz.prog 36 #[(.agg #[.pointer (some ⟨g, 0, none⟩), .int .i64 (p : Int)]), .slice (some ⟨b, 0, none⟩) n c] w0 (IoSays wb g R (ioCommit p (zs.map (·.1)) D) unitB) := by
  have HMK : Hid (∀ w : World, (Instr.makeSlice 50 (.int .i64 512) (.int .i64 512)).run Tryz.prog w = .ok (.slice (some ⟨w.heap.size, 0, none⟩) 512 512) (w.alloc (.cells (byts sect0).toArray 5))) := by
    show ∀ w, _
    intro w
    have h1 := run_make_bytes (P := Tryz.prog) 50 5 Tryz.underlying50 u8info' .i64 .i64 (512 : Int) (by omega) (by omega) w
    rw [show (512 : Int).toNat = 512 from rfl] at h1
    rw [h1, show List.replicate 512 (Value.int .u8 0) = byts sect0 by unfold sect0 zrs; rw [byts_zeros]]
  have HMK2 : Hid (∀ w : World, (Instr.makeSlice 50 (.int .i64 1024) (.int .i64 1024)).run Tryz.prog w = .ok (.slice (some ⟨w.heap.size, 0, none⟩) 1024 1024) (w.alloc (.cells (byts (zrs 1024)).toArray 5))) := by
    show ∀ w, _
    intro w
    have h1 := run_make_bytes (P := Tryz.prog) 50 5 Tryz.underlying50 u8info' .i64 .i64 (1024 : Int) (by omega) (by omega) w
    rw [show (1024 : Int).toNat = 1024 from rfl] at h1
    rw [h1, show List.replicate 1024 (Value.int .u8 0) = byts (zrs 1024) by unfold zrs; rw [byts_zeros]]
  have HZ : Hid (∀ z ∈ zs, z.1.1 < p ∧ z.1.2.length = 1024) := hz
  have HS : Hid (∀ w', Mem wb w' R → ∀ k z, zs[k]? = some z → w'.cell? ⟨b, k * 2, none⟩ = some (.int .i64 (z.1.1 : Int)) ∧ w'.cell? ⟨b, k * 2 + 1, none⟩ = some (.slice z.2.1 1024 z.2.2) ∧ Sl w' z.2.1 1024 z.2.2 (byts z.1.2)) := hs
  have s1 : (w0.alloc (.cells #[.pointer (some ⟨g, 0, none⟩), .int .i64 (p : Int)] 84)).heap.size = w0.heap.size + 1 := by simp
  have h2 := (h.alloc [.pointer (some ⟨g, 0, none⟩), .int .i64 (p : Int)] 84).alloc (byts sect0) 5
  rw [show (w0.alloc (.cells ([.pointer (some ⟨g, 0, none⟩), .int .i64 (p : Int)] : List Value).toArray 84)).heap.size = w0.heap.size + 1 from s1] at h2
  have HM0 := hid (h2.eq (by ac_rfl : _ = devAt T8 g D * (pts (w0.heap.size + 1) 5 (byts sect0) * (pts w0.heap.size 84 [.pointer (some ⟨g, 0, none⟩), .int .i64 (p : Int)] * R))))
  have HBX : Hid (∀ w' R', Mem wb w' (pts w0.heap.size 84 [.pointer (some ⟨g, 0, none⟩), .int .i64 (p : Int)] * R') → w'.cell? ⟨w0.heap.size, 0, none⟩ = some (.pointer (some ⟨g, 0, none⟩)) ∧ w'.cell? ⟨w0.heap.size, 1, none⟩ = some (.int .i64 (p : Int))) := fun w' R' h => ⟨h.cell 0, h.cell 1⟩
  have HLL : Hid ((zs.map (·.1)).length = n) := by show _ = _; rw [List.length_map, hn]
  have HIO0 : Hid (ioCommit p (zs.map (·.1)) D = ((ioSlots sect0 ((zs.map (·.1)).drop 0)).and (ioC1 p (zs.map (·.1)))) D) := by show _ = _; rw [List.drop_zero]; rfl
  have hmk := HMK.out
  clear h hz hs s1 h2
  go_enter Tryz.func36, Tryz.ntmps36
  go_wp2_with fail
  clear hmk
  go_loopw [6, 14] (fun _ kv wr => ∃ (k : Nat) (Dk : Dev) (mk : List UInt8), k ≤ n ∧ kv = .int .i64 k ∧ mk.length = 512 ∧ Dk.pend.length ≤ D.pend.length + 2 * k ∧ ioCommit p (zs.map (·.1)) D = ((ioSlots mk ((zs.map (·.1)).drop k)).and (ioC1 p (zs.map (·.1)))) Dk ∧ Mem wb wr (devAt T8 g Dk * (pts (w0.heap.size + 1) 5 (byts mk) * (pts w0.heap.size 84 [.pointer (some ⟨g, 0, none⟩), .int .i64 (p : Int)] * R)))) (fun _ kv _ => n - (intOf kv).toNat)
  case atStart => exact ⟨0, D, sect0, by omega, rfl, zrs_length 512, by omega, HIO0.out, HM0.out⟩
  case round =>
    obtain ⟨k, Dk, mk, hk, rfl, hml, hpd, hio, hm⟩ := hrel
    have HM := hid hm
    have HIO := hid hio
    have HML := hid hml
    clear HM0 HIO0 hm hio hml
    by_cases hlt : k < n
    · obtain ⟨z, hz⟩ : ∃ z, zs[k]? = some z := ⟨zs[k]'(by omega), List.getElem?_eq_getElem _⟩
      obtain ⟨hp0, hp1, hsz⟩ := HS.out wr HM.out.right.right.right k z hz
      obtain ⟨zp, zl⟩ := HZ.out z (List.mem_of_getElem? hz)
      have HDC : Hid ((zs.map (·.1)).drop k = z.1 :: (zs.map (·.1)).drop (k + 1)) := by
        show _ = _
        obtain ⟨hlt2, hzk⟩ := List.getElem?_eq_some_iff.1 hz
        rw [drop_cons _ k (by rw [List.length_map]; exact hlt2), List.getElem_map, hzk]
      have HZK := hid hz
      clear hz
      obtain ⟨⟨nn, pg⟩, ba, bc⟩ := z
      simp only at hp0 hp1 hsz zp zl HDC
      obtain ⟨pb, po, rfl⟩ := hsz.addr (by omega)
      have hble := hsz.le
      have hbcap := hsz.cap
      have HSP : Hid (∀ w' X, Mem wb w' (X * R) → Sl w' (some ⟨pb, po, none⟩) 1024 bc (byts pg)) := by
        show ∀ w' X, _
        intro w' X h'
        exact (HS.out w' h'.right k _ HZK.out).2.2
      have kn : (k : Int) < (n : Int) := by omega
      clear hsz HZK
      have HIO2 : Hid (ioCommit p (zs.map (·.1)) D = ((ioBoth (slotOf nn) pg).and fun _ => (ioSlots (setBit mk nn) ((zs.map (·.1)).drop (k + 1))).and (ioC1 p (zs.map (·.1)))) Dk) := by
        show _ = _
        rw [HIO.out, HDC.out]
        exact congrFun (Io.and_assoc _ _ _) Dk
      have HGR : Hid (Io.Grows (ioBoth (slotOf nn) pg) 2) := hid (Io.Grows.both _ _)
      have hso : slotOf nn ≤ 100000 := by first | (unfold slotOf; omega) | (unfold homeOf; omega)
      have HSO : Hid (∀ w, Calls Tryz.prog 57 #[(.agg #[.pointer (some ⟨g, 0, none⟩), .int .i64 (p : Int)]), .int .i64 (nn : Int)] w fun e w' => e = .returned (.int .i64 ((slotOf nn : Nat) : Int)) ∧ Fr w.heap.size [] w w') := fun w => slot_any w _ nn (by omega) _
      generalize slotOf nn = so at *
      have HB : Hid (∀ w R', Mem wb w (devAt T8 g Dk * R') → (∀ w', Mem wb w' R' → Sl w' (some ⟨pb, po, none⟩) 1024 bc (byts pg)) → Calls Tryz.prog 56 #[(.agg #[.pointer (some ⟨g, 0, none⟩), .int .i64 (p : Int)]), .int .i64 (so : Int), .slice (some ⟨pb, po, none⟩) 1024 bc] w (IoSays wb g R' (ioBoth so pg Dk) unitB)) := by
        show ∀ w R', _
        intro w R' h1 h2
        exact both_any wb w R' g Dk h1 (by omega) so (by omega) _ pb po bc pg zl hble hbcap h2
      obtain ⟨rb, HRB⟩ : ∃ r, Hid (ioBoth so pg Dk = r) := ⟨_, hid rfl⟩
      have HG : Hid (rb.2.pend.length ≤ Dk.pend.length + 2) := by rw [← HRB.out]; exact hid (HGR.out Dk)
      have HER : Hid (∀ c D', rb = (.error c, D') → ioCommit p (zs.map (·.1)) D = (.error c, D')) := by
        show ∀ c D', _
        intro c D' hrb
        rw [HIO2.out]
        exact Io.and_error (by rw [HRB.out, hrb])
      have HNX : Hid (∀ D', rb = (.ok (), D') → ioCommit p (zs.map (·.1)) D = ((ioSlots (setBit mk nn) ((zs.map (·.1)).drop (k + 1))).and (ioC1 p (zs.map (·.1)))) D') := by
        show ∀ D', _
        intro D' hrb
        rw [HIO2.out]
        exact Io.and_ok (by rw [HRB.out, hrb])
      rw [HRB.out] at HB
      clear HIO HIO2 HGR HRB HDC
      have HMA := hid ((HM.out.alloc [.int .i64 (nn : Int), .slice (some ⟨pb, po, none⟩) 1024 bc] 52).eq (by ac_rfl : _ = devAt T8 g Dk * (pts wr.heap.size 52 [.int .i64 (nn : Int), .slice (some ⟨pb, po, none⟩) 1024 bc] * (pts w0.heap.size 84 [.pointer (some ⟨g, 0, none⟩), .int .i64 (p : Int)] * (pts (w0.heap.size + 1) 5 (byts mk) * (R))))))
      clear HM
      go_wp2_with fail
      refine region_mem (by kernel_rfl) (V := fun jv x => match jv with | 0 => x = (.agg #[.pointer (some ⟨g, 0, none⟩), .int .i64 (p : Int)] : Value) | 1 => x = (.agg #[.pointer (some ⟨g, 0, none⟩), .int .i64 (p : Int)] : Value) | 2 => x = (.pointer (some ⟨wr.heap.size, 0, none⟩) : Value) | 3 => x = (.int .i64 (nn : Int) : Value) | 4 => x = (.int .i64 (so : Int) : Value) | 5 => x = (.pointer (some ⟨wr.heap.size, 1, none⟩) : Value) | 6 => x = (.slice (some ⟨pb, po, none⟩) 1024 bc : Value) | 7 => ∃ D2, x = (.tuple #[] : Value) ∧ rb = (Except.ok (), D2) | _ => True) (A := (fun L => (if L 7 then devAt T8 g rb.2 else devAt T8 g Dk) * (pts wr.heap.size 52 [.int .i64 (nn : Int), .slice (some ⟨pb, po, none⟩) 1024 bc] * (pts w0.heap.size 84 [.pointer (some ⟨g, 0, none⟩), .int .i64 (p : Int)] * (pts (w0.heap.size + 1) 5 (byts mk) * (R)))))) (Bs := []) HMA.out (fun L L' h => by show (if L 7 then _ else _) * _ = (if L' 7 then _ else _) * _; rw [h 7 (by decide)]) (show ([] : List Nat).Nodup by decide) (by kernel_rfl) (by kernel_rfl) ?_ ?_
      · refine ⟨?_, ?_, ?_, ?_, ?_, ?_, ?_, ?_, trivial⟩
        · refine Fine2.run trivial _ rfl (fun _ => rfl) rfl rfl (fun L a w R' hw hm hmk hf => ?_)
          have e2 : a.eval (.tmp 2) = (.pointer (some ⟨w0.heap.size, 0, none⟩) : Value) := (hf 2 (by decide +kernel)).old (by kernel_rfl)
          simp only [Act.eval, Array.getD_eq_getD_getElem?] at e2
          have hbx := hm.left.right.right
          have q0 := hbx.cell 0
          have q1 := hbx.cell 1
          simp only [List.getElem?_cons_zero, List.getElem?_cons_succ] at q0 q1
          simp [execOp, resolve, invoke, builtin, go_sem, e2, q0, q1]
        · refine Fine2.run trivial _ rfl (fun _ => rfl) rfl rfl (fun L a w R' hw hm hmk hf => ?_)
          have e2 : a.eval (.tmp 2) = (.pointer (some ⟨w0.heap.size, 0, none⟩) : Value) := (hf 2 (by decide +kernel)).old (by kernel_rfl)
          simp only [Act.eval, Array.getD_eq_getD_getElem?] at e2
          have hbx := hm.left.right.right
          have q0 := hbx.cell 0
          have q1 := hbx.cell 1
          simp only [List.getElem?_cons_zero, List.getElem?_cons_succ] at q0 q1
          simp [execOp, resolve, invoke, builtin, go_sem, e2, q0, q1]
        · refine Fine2.run trivial _ rfl (fun _ => rfl) rfl rfl (fun L a w R' hw hm hmk hf => ?_)
          have e6 : a.eval (.tmp 6) = (.pointer (some ⟨wr.heap.size, 0, none⟩) : Value) := (hf 6 (by decide +kernel)).old (by kernel_rfl)
          simp only [Act.eval, Array.getD_eq_getD_getElem?] at e6
          simp [execOp, resolve, invoke, builtin, go_sem, e6]
        · refine Fine2.run trivial _ rfl (fun _ => rfl) rfl rfl (fun L a w R' hw hm hmk hf => ?_)
          have e20 : a.eval (.tmp 20) = (.pointer (some ⟨wr.heap.size, 0, none⟩) : Value) := (hf 20 (by decide +kernel)).new 2 (by kernel_rfl) (by kernel_rfl)
          simp only [Act.eval, Array.getD_eq_getD_getElem?] at e20
          have hbx := hm.left.right
          have q0 := hbx.cell 0
          simp only [List.getElem?_cons_zero, List.getElem?_cons_succ] at q0
          simp [execOp, resolve, invoke, builtin, go_sem, e20, q0]
        · refine Fine2.call trivial rfl 57 #[(.agg #[.pointer (some ⟨g, 0, none⟩), .int .i64 (p : Int)]), (.int .i64 (nn : Int))] (fun a w hf => ?_) (fun L a w R' hL hw hm hmk hf => ?_)
          · have e19 : a.eval (.tmp 19) = (.agg #[.pointer (some ⟨g, 0, none⟩), .int .i64 (p : Int)] : Value) := (hf 19 (by decide +kernel)).new 1 (by kernel_rfl) (by kernel_rfl)
            have e21 : a.eval (.tmp 21) = (.int .i64 (nn : Int) : Value) := (hf 21 (by decide +kernel)).new 3 (by kernel_rfl) (by kernel_rfl)
            simp only [Act.eval, Array.getD_eq_getD_getElem?] at e19 e21
            simp [execOp, resolve, invoke, go_sem, e19, e21]
          · refine (HSO.out w).mono ?_
            rintro e w' ⟨rfl, hf'⟩
            refine ⟨_, rfl, rfl, ?_⟩
            have hm2 : Mem wb w' ((if L 7 then devAt T8 g rb.2 else devAt T8 g Dk) * (pts wr.heap.size 52 [.int .i64 (nn : Int), .slice (some ⟨pb, po, none⟩) 1024 bc] * (pts w0.heap.size 84 [.pointer (some ⟨g, 0, none⟩), .int .i64 (p : Int)] * (pts (w0.heap.size + 1) 5 (byts mk) * (R)))) * R') := hm.fr hf'
            show Mem wb w' ((if doneSet L 4 7 then devAt T8 g rb.2 else devAt T8 g Dk) * (pts wr.heap.size 52 [.int .i64 (nn : Int), .slice (some ⟨pb, po, none⟩) 1024 bc] * (pts w0.heap.size 84 [.pointer (some ⟨g, 0, none⟩), .int .i64 (p : Int)] * (pts (w0.heap.size + 1) 5 (byts mk) * (R)))) * (emp * R'))
            rw [show doneSet L 4 7 = L 7 from rfl, emp_sep]
            exact hm2
        · refine Fine2.run trivial _ rfl (fun _ => rfl) rfl rfl (fun L a w R' hw hm hmk hf => ?_)
          have e6 : a.eval (.tmp 6) = (.pointer (some ⟨wr.heap.size, 0, none⟩) : Value) := (hf 6 (by decide +kernel)).old (by kernel_rfl)
          simp only [Act.eval, Array.getD_eq_getD_getElem?] at e6
          simp [execOp, resolve, invoke, builtin, go_sem, e6]
        · refine Fine2.run trivial _ rfl (fun _ => rfl) rfl rfl (fun L a w R' hw hm hmk hf => ?_)
          have e23 : a.eval (.tmp 23) = (.pointer (some ⟨wr.heap.size, 1, none⟩) : Value) := (hf 23 (by decide +kernel)).new 5 (by kernel_rfl) (by kernel_rfl)
          simp only [Act.eval, Array.getD_eq_getD_getElem?] at e23
          have hbx := hm.left.right
          have q0 := hbx.cell 1
          simp only [List.getElem?_cons_zero, List.getElem?_cons_succ] at q0
          simp [execOp, resolve, invoke, builtin, go_sem, e23, q0]
        · refine Fine2.callP trivial rfl 56 #[(.agg #[.pointer (some ⟨g, 0, none⟩), .int .i64 (p : Int)]), (.int .i64 (so : Int)), (.slice (some ⟨pb, po, none⟩) 1024 bc)] (fun a w hf => ?_) (fun L a w R' hL hw hm hmk hf hdf hcl => ?_)
          · have e18 : a.eval (.tmp 18) = (.agg #[.pointer (some ⟨g, 0, none⟩), .int .i64 (p : Int)] : Value) := (hf 18 (by decide +kernel)).new 0 (by kernel_rfl) (by kernel_rfl)
            have e22 : a.eval (.tmp 22) = (.int .i64 (so : Int) : Value) := (hf 22 (by decide +kernel)).new 4 (by kernel_rfl) (by kernel_rfl)
            have e24 : a.eval (.tmp 24) = (.slice (some ⟨pb, po, none⟩) 1024 bc : Value) := (hf 24 (by decide +kernel)).new 6 (by kernel_rfl) (by kernel_rfl)
            simp only [Act.eval, Array.getD_eq_getD_getElem?] at e18 e22 e24
            simp [execOp, resolve, invoke, go_sem, e18, e22, e24]
          · have hm : Mem wb w ((if L 7 then devAt T8 g rb.2 else devAt T8 g Dk) * (pts wr.heap.size 52 [.int .i64 (nn : Int), .slice (some ⟨pb, po, none⟩) 1024 bc] * (pts w0.heap.size 84 [.pointer (some ⟨g, 0, none⟩), .int .i64 (p : Int)] * (pts (w0.heap.size + 1) 5 (byts mk) * (R)))) * R') := hm
            rw [hL] at hm
            have hm : Mem wb w (devAt T8 g Dk * (pts wr.heap.size 52 [.int .i64 (nn : Int), .slice (some ⟨pb, po, none⟩) 1024 bc] * (pts w0.heap.size 84 [.pointer (some ⟨g, 0, none⟩), .int .i64 (p : Int)] * (pts (w0.heap.size + 1) 5 (byts mk) * (R)))) * R') := hm
            refine (HB.out w (pts wr.heap.size 52 [.int .i64 (nn : Int), .slice (some ⟨pb, po, none⟩) 1024 bc] * (pts w0.heap.size 84 [.pointer (some ⟨g, 0, none⟩), .int .i64 (p : Int)] * (pts (w0.heap.size + 1) 5 (byts mk) * (R))) * R') (hm.eq (by ac_rfl)) (fun w' h' => HSP.out w' _ (h'.eq (by ac_rfl)))).mono ?_
            intro e w' hs'
            rcases hrb : rb with ⟨c1 | u1, D2⟩
            · rw [hrb] at hs'
              obtain ⟨rfl, hc, hm2⟩ := hs'.error rfl
              exact .inr ⟨_, rfl, hdf, IoSays.mkError (HER.out _ _ hrb) hc (hm2.eq (by ac_rfl) : Mem wb w' ((R' * (pts wr.heap.size 52 [.int .i64 (nn : Int), .slice (some ⟨pb, po, none⟩) 1024 bc] * (pts w0.heap.size 84 [.pointer (some ⟨g, 0, none⟩), .int .i64 (p : Int)] * (pts (w0.heap.size + 1) 5 (byts mk))))) * (devAt T8 g D2 * R))).right⟩
            · rw [hrb] at hs'
              obtain ⟨rfl, hm2⟩ := hs'.unit rfl
              refine .inl ⟨_, rfl, ⟨D2, rfl, rfl⟩, ?_⟩
              show Mem wb w' ((if doneSet L 7 7 then devAt T8 g (Except.ok (), D2).2 else devAt T8 g Dk) * (pts wr.heap.size 52 [.int .i64 (nn : Int), .slice (some ⟨pb, po, none⟩) 1024 bc] * (pts w0.heap.size 84 [.pointer (some ⟨g, 0, none⟩), .int .i64 (p : Int)] * (pts (w0.heap.size + 1) 5 (byts mk) * (R)))) * (emp * R'))
              rw [show doneSet L 7 7 = true from rfl, emp_sep]
              exact hm2.eq (by show _ = devAt T8 g D2 * (pts wr.heap.size 52 [.int .i64 (nn : Int), .slice (some ⟨pb, po, none⟩) 1024 bc] * (pts w0.heap.size 84 [.pointer (some ⟨g, 0, none⟩), .int .i64 (p : Int)] * (pts (w0.heap.size + 1) 5 (byts mk) * (R)))) * R'; ac_rfl)
      · intro u w9 hu hm9
        obtain ⟨D2, hu25, hrb⟩ := hu 25 7 rfl
        have hm8 := hm9.left
        rw [hrb] at hm8
        have HPD : Hid (D2.pend.length ≤ D.pend.length + 2 * (k + 1)) := by have h1 := HG.out; rw [hrb] at h1; show _ ≤ _; have h2 : D2.pend.length ≤ Dk.pend.length + 2 := h1; omega
        have HN2 := hid (HNX.out D2 hrb)
        have hm8b : Mem wb w9 (devAt T8 g D2 * (pts wr.heap.size 52 [.int .i64 (nn : Int), .slice (some ⟨pb, po, none⟩) 1024 bc] * (pts w0.heap.size 84 [.pointer (some ⟨g, 0, none⟩), .int .i64 (p : Int)] * (pts (w0.heap.size + 1) 5 (byts mk) * (R))))) := hm8
        have HMB := hid (hm8b.eq (by ac_rfl : _ = pts (w0.heap.size + 1) 5 (byts mk) * (pts wr.heap.size 52 [.int .i64 (nn : Int), .slice (some ⟨pb, po, none⟩) 1024 bc] * (pts w0.heap.size 84 [.pointer (some ⟨g, 0, none⟩), .int .i64 (p : Int)] * (devAt T8 g D2 * (R))))))
        simp only [putAll]
        clear hm9 hm8 hm8b hu HG HER HNX HB HMA HSP HSO hrb hp0 hp1
        obtain ⟨q, hq⟩ : ∃ q, q = nn / 8 := ⟨_, rfl⟩
        have hqi : (nn : Int) / 8 = (q : Int) := by omega
        obtain ⟨r, hr⟩ : ∃ r, r = nn % 8 := ⟨_, rfl⟩
        have hri : (nn : Int) % 8 = (r : Int) := by omega
        have hqw : IntKind.i64.wrap (q : Int) = (q : Int) := IntWalk.i64_in _ (by omega)
        have hrm : (nn : Int).tmod 8 = (r : Int) := by rw [Int.tmod_eq_emod_of_nonneg (by omega)]; exact hri
        have hrw : IntKind.i64.wrap (r : Int) = (r : Int) := IntWalk.i64_in _ (by omega)
        have hq64 : q < 512 := by omega
        have hr8 : r < 8 := by omega
        obtain ⟨x8, hx8⟩ : ∃ x8, x8 = (mk.getD q 0).toNat := ⟨_, rfl⟩
        obtain ⟨s8, hs8⟩ : ∃ s8, s8 = (UInt8.ofNat (2 ^ r)).toNat := ⟨_, rfl⟩
        obtain ⟨y8, hy8⟩ : ∃ y8, y8 = (mk.getD q 0 ||| UInt8.ofNat (2 ^ r)).toNat := ⟨_, rfl⟩
        have hsh : IntKind.u8.wrap ((2 : Int) ^ r) = (s8 : Int) := by rw [hs8, ← shl_u8 r hr8, Int.one_mul]
        have hor : bits .or .u8 (x8 : Int) (s8 : Int) = (y8 : Int) := by rw [hx8, hs8, hy8]; exact or_u8 _ r hr8
        have HX : Hid ((byts mk)[q]? = some (.int .u8 (x8 : Int))) := by
          show _ = _
          have h1 := HML.out
          rw [hx8]
          simp [byts, byt, List.getD, List.getElem?_eq_getElem (show q < mk.length by omega)]
        have HST : Hid (∀ w R', Mem wb w (pts (w0.heap.size + 1) 5 (byts mk) * (pts wr.heap.size 52 [.int .i64 (nn : Int), .slice (some ⟨pb, po, none⟩) 1024 bc] * (pts w0.heap.size 84 [.pointer (some ⟨g, 0, none⟩), .int .i64 (p : Int)] * (devAt T8 g D2 * (R)))) * R') → Mem wb (w.setCell ⟨(w0.heap.size + 1), q, none⟩ (.int .u8 (y8 : Int))) (pts (w0.heap.size + 1) 5 (byts (setBit mk nn)) * (pts wr.heap.size 52 [.int .i64 (nn : Int), .slice (some ⟨pb, po, none⟩) 1024 bc] * (pts w0.heap.size 84 [.pointer (some ⟨g, 0, none⟩), .int .i64 (p : Int)] * (devAt T8 g D2 * (R)))) * (emp * R'))) := by
          show ∀ w R', _
          intro w R' h'
          rw [emp_sep, sep_assoc]
          rw [sep_assoc] at h'
          have h3 := h'.setCell q (.int .u8 (y8 : Int))
          rw [hy8, byts_set] at h3
          unfold setBit
          rw [← hq, ← hr]
          rw [hy8]
          exact h3
        have hqi2 : ¬ (512 : Int) ≤ (q : Int) := by omega
        have hqi3 : (q : Int) < 512 := by omega
        clear hx8 hs8 hy8 hq hr
        go_simp
        go_wp2_with fail
        refine region_mem (by kernel_rfl) (V := fun jv x => match jv with | 0 => x = (.slice (some ⟨(w0.heap.size + 1), 0, none⟩) 512 512 : Value) | 1 => x = (.pointer (some ⟨wr.heap.size, 0, none⟩) : Value) | 2 => x = (.int .i64 (nn : Int) : Value) | 3 => x = (.int .i64 (q : Int) : Value) | 4 => x = (.pointer (some ⟨(w0.heap.size + 1), q, none⟩) : Value) | 5 => x = (.int .u8 (x8 : Int) : Value) | 6 => x = (.pointer (some ⟨wr.heap.size, 0, none⟩) : Value) | 7 => x = (.int .i64 (nn : Int) : Value) | 8 => x = (.int .i64 (r : Int) : Value) | 9 => x = (.int .u8 (s8 : Int) : Value) | 10 => x = (.int .u8 (y8 : Int) : Value) | 11 => x = (.pointer (some ⟨(w0.heap.size + 1), q, none⟩) : Value) | 12 => x = undef | _ => True) (A := (fun L => (if L 12 then pts (w0.heap.size + 1) 5 (byts (setBit mk nn)) else pts (w0.heap.size + 1) 5 (byts mk)) * (pts wr.heap.size 52 [.int .i64 (nn : Int), .slice (some ⟨pb, po, none⟩) 1024 bc] * (pts w0.heap.size 84 [.pointer (some ⟨g, 0, none⟩), .int .i64 (p : Int)] * (devAt T8 g D2 * (R)))))) (Bs := []) HMB.out (fun L L' h => by show (if L 12 then _ else _) * _ = (if L' 12 then _ else _) * _; rw [h 12 (by decide)]) (show ([] : List Nat).Nodup by decide) (by kernel_rfl) (by kernel_rfl) ?_ ?_
        · refine ⟨?_, ?_, ?_, ?_, ?_, ?_, ?_, ?_, ?_, ?_, ?_, ?_, ?_, trivial⟩
          · refine Fine2.run trivial _ rfl (fun _ => rfl) rfl rfl (fun L a w R' hw hm hmk hf => ?_)
            have e4 : a.eval (.tmp 4) = (.slice (some ⟨(w0.heap.size + 1), 0, none⟩) 512 512 : Value) := (hf 4 (by decide +kernel)).old (by kernel_rfl)
            simp only [Act.eval, Array.getD_eq_getD_getElem?] at e4
            simp [execOp, resolve, invoke, builtin, go_sem, e4]
          · refine Fine2.run trivial _ rfl (fun _ => rfl) rfl rfl (fun L a w R' hw hm hmk hf => ?_)
            have e6 : a.eval (.tmp 6) = (.pointer (some ⟨wr.heap.size, 0, none⟩) : Value) := (hf 6 (by decide +kernel)).old (by kernel_rfl)
            simp only [Act.eval, Array.getD_eq_getD_getElem?] at e6
            simp [execOp, resolve, invoke, builtin, go_sem, e6]
          · refine Fine2.run trivial _ rfl (fun _ => rfl) rfl rfl (fun L a w R' hw hm hmk hf => ?_)
            have e27 : a.eval (.tmp 27) = (.pointer (some ⟨wr.heap.size, 0, none⟩) : Value) := (hf 27 (by decide +kernel)).new 1 (by kernel_rfl) (by kernel_rfl)
            simp only [Act.eval, Array.getD_eq_getD_getElem?] at e27
            have hbx := hm.left.right
            have q0 := hbx.cell 0
            simp only [List.getElem?_cons_zero, List.getElem?_cons_succ] at q0
            simp [execOp, resolve, invoke, builtin, go_sem, e27, q0]
          · refine Fine2.run trivial _ rfl (fun _ => rfl) rfl rfl (fun L a w R' hw hm hmk hf => ?_)
            have e28 : a.eval (.tmp 28) = (.int .i64 (nn : Int) : Value) := (hf 28 (by decide +kernel)).new 2 (by kernel_rfl) (by kernel_rfl)
            simp only [Act.eval, Array.getD_eq_getD_getElem?] at e28
            simp [execOp, resolve, invoke, builtin, go_sem, e28, hqi, hqw]
          · refine Fine2.run trivial _ rfl (fun _ => rfl) rfl rfl (fun L a w R' hw hm hmk hf => ?_)
            have e26 : a.eval (.tmp 26) = (.slice (some ⟨(w0.heap.size + 1), 0, none⟩) 512 512 : Value) := (hf 26 (by decide +kernel)).new 0 (by kernel_rfl) (by kernel_rfl)
            have e29 : a.eval (.tmp 29) = (.int .i64 (q : Int) : Value) := (hf 29 (by decide +kernel)).new 3 (by kernel_rfl) (by kernel_rfl)
            simp only [Act.eval, Array.getD_eq_getD_getElem?] at e26 e29
            simp [execOp, resolve, invoke, builtin, go_sem, e26, e29, hqi2, hqi3]
          · refine Fine2.runC trivial _ rfl (fun _ => rfl) rfl rfl (fun L a w R' hL hw hm hmk hf hcl => ?_)
            have e30 : a.eval (.tmp 30) = (.pointer (some ⟨(w0.heap.size + 1), q, none⟩) : Value) := (hf 30 (by decide +kernel)).new 4 (by kernel_rfl) (by kernel_rfl)
            simp only [Act.eval, Array.getD_eq_getD_getElem?] at e30
            have hL12 : L 12 = false := not_done hcl hL 12 _ rfl (by kernel_rfl)
            have hm : Mem wb w ((if L 12 then pts (w0.heap.size + 1) 5 (byts (setBit mk nn)) else pts (w0.heap.size + 1) 5 (byts mk)) * (pts wr.heap.size 52 [.int .i64 (nn : Int), .slice (some ⟨pb, po, none⟩) 1024 bc] * (pts w0.heap.size 84 [.pointer (some ⟨g, 0, none⟩), .int .i64 (p : Int)] * (devAt T8 g D2 * (R)))) * R') := hm
            rw [hL12] at hm
            have q1 : w.cell? ⟨(w0.heap.size + 1), q, none⟩ = some (.int .u8 (x8 : Int)) := by
              rw [hm.left.cell q]
              exact HX.out
            simp [execOp, resolve, invoke, builtin, go_sem, e30, q1]
          · refine Fine2.run trivial _ rfl (fun _ => rfl) rfl rfl (fun L a w R' hw hm hmk hf => ?_)
            have e6 : a.eval (.tmp 6) = (.pointer (some ⟨wr.heap.size, 0, none⟩) : Value) := (hf 6 (by decide +kernel)).old (by kernel_rfl)
            simp only [Act.eval, Array.getD_eq_getD_getElem?] at e6
            simp [execOp, resolve, invoke, builtin, go_sem, e6]
          · refine Fine2.run trivial _ rfl (fun _ => rfl) rfl rfl (fun L a w R' hw hm hmk hf => ?_)
            have e32 : a.eval (.tmp 32) = (.pointer (some ⟨wr.heap.size, 0, none⟩) : Value) := (hf 32 (by decide +kernel)).new 6 (by kernel_rfl) (by kernel_rfl)
            simp only [Act.eval, Array.getD_eq_getD_getElem?] at e32
            have hbx := hm.left.right
            have q0 := hbx.cell 0
            simp only [List.getElem?_cons_zero, List.getElem?_cons_succ] at q0
            simp [execOp, resolve, invoke, builtin, go_sem, e32, q0]
          · refine Fine2.run trivial _ rfl (fun _ => rfl) rfl rfl (fun L a w R' hw hm hmk hf => ?_)
            have e33 : a.eval (.tmp 33) = (.int .i64 (nn : Int) : Value) := (hf 33 (by decide +kernel)).new 7 (by kernel_rfl) (by kernel_rfl)
            simp only [Act.eval, Array.getD_eq_getD_getElem?] at e33
            simp [execOp, resolve, invoke, builtin, go_sem, e33, hri, hrm, hrw]
          · refine Fine2.run trivial _ rfl (fun _ => rfl) rfl rfl (fun L a w R' hw hm hmk hf => ?_)
            have e34 : a.eval (.tmp 34) = (.int .i64 (r : Int) : Value) := (hf 34 (by decide +kernel)).new 8 (by kernel_rfl) (by kernel_rfl)
            simp only [Act.eval, Array.getD_eq_getD_getElem?] at e34
            simp [execOp, resolve, invoke, builtin, go_sem, e34, hsh]
          · refine Fine2.run trivial _ rfl (fun _ => rfl) rfl rfl (fun L a w R' hw hm hmk hf => ?_)
            have e31 : a.eval (.tmp 31) = (.int .u8 (x8 : Int) : Value) := (hf 31 (by decide +kernel)).new 5 (by kernel_rfl) (by kernel_rfl)
            have e35 : a.eval (.tmp 35) = (.int .u8 (s8 : Int) : Value) := (hf 35 (by decide +kernel)).new 9 (by kernel_rfl) (by kernel_rfl)
            simp only [Act.eval, Array.getD_eq_getD_getElem?] at e31 e35
            simp [execOp, resolve, invoke, builtin, go_sem, e31, e35, hor]
          · refine Fine2.run trivial _ rfl (fun _ => rfl) rfl rfl (fun L a w R' hw hm hmk hf => ?_)
            have e26 : a.eval (.tmp 26) = (.slice (some ⟨(w0.heap.size + 1), 0, none⟩) 512 512 : Value) := (hf 26 (by decide +kernel)).new 0 (by kernel_rfl) (by kernel_rfl)
            have e29 : a.eval (.tmp 29) = (.int .i64 (q : Int) : Value) := (hf 29 (by decide +kernel)).new 3 (by kernel_rfl) (by kernel_rfl)
            simp only [Act.eval, Array.getD_eq_getD_getElem?] at e26 e29
            simp [execOp, resolve, invoke, builtin, go_sem, e26, e29, hqi2, hqi3]
          · refine Fine2.store trivial rfl (fun L a w R' hL hw hm hmk hf => ?_)
            rw [eaten_none rfl, emp_sep] at hm
            have e36 : a.eval (.tmp 36) = (.int .u8 (y8 : Int) : Value) := (hf 36 (by decide +kernel)).new 10 (by kernel_rfl) (by kernel_rfl)
            have e37 : a.eval (.tmp 37) = (.pointer (some ⟨(w0.heap.size + 1), q, none⟩) : Value) := (hf 37 (by decide +kernel)).new 11 (by kernel_rfl) (by kernel_rfl)
            simp only [Act.eval, Array.getD_eq_getD_getElem?] at e36 e37
            have hm : Mem wb w ((if L 12 then pts (w0.heap.size + 1) 5 (byts (setBit mk nn)) else pts (w0.heap.size + 1) 5 (byts mk)) * (pts wr.heap.size 52 [.int .i64 (nn : Int), .slice (some ⟨pb, po, none⟩) 1024 bc] * (pts w0.heap.size 84 [.pointer (some ⟨g, 0, none⟩), .int .i64 (p : Int)] * (devAt T8 g D2 * (R)))) * R') := hm
            rw [hL] at hm
            have hfz := (hm.left.frozen q : w.frozen? ⟨(w0.heap.size + 1), q, none⟩ = false)
            have hcz : w.cell? ⟨(w0.heap.size + 1), q, none⟩ = some (.int .u8 (x8 : Int)) := by rw [hm.left.cell q]; exact HX.out
            have hm : Mem wb w (pts (w0.heap.size + 1) 5 (byts mk) * (pts wr.heap.size 52 [.int .i64 (nn : Int), .slice (some ⟨pb, po, none⟩) 1024 bc] * (pts w0.heap.size 84 [.pointer (some ⟨g, 0, none⟩), .int .i64 (p : Int)] * (devAt T8 g D2 * (R)))) * R') := hm
            refine ⟨w.setCell ⟨(w0.heap.size + 1), q, none⟩ (.int .u8 (y8 : Int)), ?_, ?_⟩
            · simp [execOp, resolve, invoke, builtin, go_sem, e36, e37, hfz, hcz]
            · exact HST.out w R' hm
        · intro u w10 hu hm9
          have hm8c : Mem wb w10 (pts (w0.heap.size + 1) 5 (byts (setBit mk nn)) * (pts wr.heap.size 52 [.int .i64 (nn : Int), .slice (some ⟨pb, po, none⟩) 1024 bc] * (pts w0.heap.size 84 [.pointer (some ⟨g, 0, none⟩), .int .i64 (p : Int)] * (devAt T8 g D2 * (R))))) := hm9.left
          have HMC := hid ((hm8c.eq (by ac_rfl : _ = pts wr.heap.size 52 [.int .i64 (nn : Int), .slice (some ⟨pb, po, none⟩) 1024 bc] * (devAt T8 g D2 * (pts (w0.heap.size + 1) 5 (byts (setBit mk nn)) * (pts w0.heap.size 84 [.pointer (some ⟨g, 0, none⟩), .int .i64 (p : Int)] * R))))).right)
          simp only [putAll]
          clear hm9 hm8c hu HMB HST HX hsh hor hqi hri hqi2 hqi3 hqw hrm hrw
          go_simp
          go_wp2_with fail
          go_roundw
          case rel => exact ⟨k + 1, D2, setBit mk nn, by omega, by go_num, by unfold setBit; rw [List.length_set]; exact HML.out, HPD.out, HN2.out, HMC.out⟩
          case measure => simp [intOf] <;> omega
    · obtain rfl : k = n := by omega
      have HB0 : Hid (ioCommit p (zs.map (·.1)) D = (ioFlush.and fun _ => (ioWrite 0 (mk.set 511 1)).and fun _ => ioFlush.and fun _ => ioC4 p (zs.map (·.1)) (mk.set 511 1)) Dk) := by
        show _ = _
        rw [HIO.out, List.drop_of_length_le (by rw [HLL.out]; exact Nat.le_refl _)]
        rfl
      have HP0 := hid hpd
      have HM0 := HM
      obtain ⟨q0, q1⟩ := HBX.out _ _ HM.out.right.right
      have HF1 := hid (dflush_any wb wr _ g Dk HM.out (by omega) (p : Int))
      obtain ⟨rf1, HRF1⟩ : ∃ r, Hid (ioFlush Dk = r) := ⟨_, hid rfl⟩
      have HG1 : Hid (rf1.2.pend.length ≤ Dk.pend.length + 0) := by rw [← HRF1.out]; exact hid (Io.Grows.flush Dk)
      rw [HRF1.out] at HF1
      clear HIO HM hpd
      go_wp2_with fail
      refine HF1.out.mono ?_
      intro e w1 hs'
      rcases hrf1 : rf1 with ⟨e1 | u1, D1⟩
      · rw [hrf1] at hs'
        obtain ⟨rfl, hc, hm2⟩ := hs'.error rfl
        dsimp only
        exact ⟨rfl, IoSays.mkError (HB0.out.trans (Io.and_error (by rw [HRF1.out, hrf1]))) hc (hm2.eq (by ac_rfl) : Mem wb w1 ((pts (w0.heap.size + 1) 5 (byts mk) * (pts w0.heap.size 84 [.pointer (some ⟨g, 0, none⟩), .int .i64 (p : Int)])) * (devAt T8 g D1 * R))).right⟩
      rw [hrf1] at hs'
      obtain ⟨rfl, hm2⟩ := hs'.unit rfl
      dsimp only
      have HB1 : Hid (ioCommit p (zs.map (·.1)) D = ((ioWrite 0 (mk.set 511 1)).and fun _ => ioFlush.and fun _ => ioC4 p (zs.map (·.1)) (mk.set 511 1)) D1) := hid (HB0.out.trans (Io.and_ok (by rw [HRF1.out, hrf1])))
      have HM1 := hid ((hm2.eq (by ac_rfl) : Mem wb w1 (devAt T8 g D1 * (pts (w0.heap.size + 1) 5 (byts mk) * (pts w0.heap.size 84 [.pointer (some ⟨g, 0, none⟩), .int .i64 (p : Int)] * (R))))))
      have HP1 : Hid (D1.pend.length ≤ D.pend.length + 2 * k) := by
        have h1 := HG1.out
        rw [hrf1] at h1
        have h2 : D1.pend.length ≤ Dk.pend.length + 0 := h1
        have h3 := HP0.out
        show _ ≤ _
        omega
      clear hm2 hs' hrf1 HF1 HRF1 HG1 HB0 HM0 HP0
      have hb2 := HM1.out.p1
      have hf1 := hb2.frozen 511
      have hc1 := hb2.cell 511
      rw [List.getElem?_eq_getElem (by rw [byts_length, HML.out]; omega)] at hc1
      obtain ⟨x, hx⟩ : ∃ x, (byts mk)[511]'(by rw [byts_length, HML.out]; omega) = x := ⟨_, rfl⟩
      rw [hx] at hc1
      have hb3 := hb2.setCell 511 (.int .u8 (((1 : UInt8).toNat : Nat) : Int))
      rw [byts_set, show (((1 : UInt8).toNat : Nat) : Int) = 1 from rfl] at hb3
      have HM1b := hid (hb3.eq (by ac_rfl : _ = devAt T8 g D1 * (pts (w0.heap.size + 1) 5 (byts (mk.set 511 1)) * (pts w0.heap.size 84 [.pointer (some ⟨g, 0, none⟩), .int .i64 (p : Int)] * R))))
      have HML1 : Hid ((mk.set 511 1).length = 512) := by show _ = _; rw [List.length_set]; exact HML.out
      generalize mk.set 511 1 = m1 at *
      have hq := HM1b.out.right.right
      obtain ⟨q0, q1⟩ := HBX.out _ _ hq
      have hm511 : ¬ (512 : Int) ≤ 511 := by omega
      have hpd := HP1.out
      have hsl1 := HM1b.out.right.blk.1.sl_all 512 (by rw [byts_length]; exact HML1.out) (by omega)
      have HF2 := hid (dwrite_any wb _ _ g D1 HM1b.out (by omega) 0 (by omega) (p : Int) _ 512 512 m1 hsl1)
      obtain ⟨rf2, HRF2⟩ : ∃ r, Hid (ioWrite 0 m1 D1 = r) := ⟨_, hid rfl⟩
      have HG2 : Hid (rf2.2.pend.length ≤ D1.pend.length + 1) := by rw [← HRF2.out]; exact hid (Io.Grows.write 0 m1 D1)
      rw [HRF2.out] at HF2
      clear hq hb2 hb3 hx hpd hsl1 HM1
      go_wp2_with fail
      refine HF2.out.mono ?_
      intro e w2 hs'
      rcases hrf2 : rf2 with ⟨e2 | u2, D2⟩
      · rw [hrf2] at hs'
        obtain ⟨rfl, hc, hm2⟩ := hs'.error rfl
        dsimp only
        exact ⟨rfl, IoSays.mkError (HB1.out.trans (Io.and_error (by rw [HRF2.out, hrf2]))) hc (hm2.eq (by ac_rfl) : Mem wb w2 ((pts (w0.heap.size + 1) 5 (byts m1) * (pts w0.heap.size 84 [.pointer (some ⟨g, 0, none⟩), .int .i64 (p : Int)])) * (devAt T8 g D2 * R))).right⟩
      rw [hrf2] at hs'
      obtain ⟨rfl, hm2⟩ := hs'.unit rfl
      dsimp only
      have HB2 : Hid (ioCommit p (zs.map (·.1)) D = (ioFlush.and fun _ => ioC4 p (zs.map (·.1)) m1) D2) := hid (HB1.out.trans (Io.and_ok (by rw [HRF2.out, hrf2])))
      have HM2 := hid ((hm2.eq (by ac_rfl) : Mem wb w2 (devAt T8 g D2 * (pts (w0.heap.size + 1) 5 (byts m1) * (pts w0.heap.size 84 [.pointer (some ⟨g, 0, none⟩), .int .i64 (p : Int)] * (R))))))
      have HP2 : Hid (D2.pend.length ≤ D.pend.length + (2 * k + 1)) := by
        have h1 := HG2.out
        rw [hrf2] at h1
        have h2 : D2.pend.length ≤ D1.pend.length + 1 := h1
        have h3 := HP1.out
        show _ ≤ _
        omega
      clear hm2 hs' hrf2 HF2 HRF2 HG2 HB1 HM1b HP1
      clear hf1 hc1 hm511
      obtain ⟨q0, q1⟩ := HBX.out _ _ HM2.out.right.right
      have hpd := HP2.out
      have HF3 := hid (dflush_any wb _ _ g D2 HM2.out (by omega) (p : Int))
      obtain ⟨rf3, HRF3⟩ : ∃ r, Hid (ioFlush D2 = r) := ⟨_, hid rfl⟩
      have HG3 : Hid (rf3.2.pend.length ≤ D2.pend.length + 0) := by rw [← HRF3.out]; exact hid (Io.Grows.flush D2)
      rw [HRF3.out] at HF3
      clear hpd
      go_wp2_with fail
      refine HF3.out.mono ?_
      intro e w3 hs'
      rcases hrf3 : rf3 with ⟨e3 | u3, D3⟩
      · rw [hrf3] at hs'
        obtain ⟨rfl, hc, hm2⟩ := hs'.error rfl
        dsimp only
        exact ⟨rfl, IoSays.mkError (HB2.out.trans (Io.and_error (by rw [HRF3.out, hrf3]))) hc (hm2.eq (by ac_rfl) : Mem wb w3 ((pts (w0.heap.size + 1) 5 (byts m1) * (pts w0.heap.size 84 [.pointer (some ⟨g, 0, none⟩), .int .i64 (p : Int)])) * (devAt T8 g D3 * R))).right⟩
      rw [hrf3] at hs'
      obtain ⟨rfl, hm2⟩ := hs'.unit rfl
      dsimp only
      have HB3 : Hid (ioCommit p (zs.map (·.1)) D = (ioC4 p (zs.map (·.1)) m1) D3) := hid (HB2.out.trans (Io.and_ok (by rw [HRF3.out, hrf3])))
      have HM3 := hid ((hm2.eq (by ac_rfl) : Mem wb w3 (devAt T8 g D3 * (pts (w0.heap.size + 1) 5 (byts m1) * (pts w0.heap.size 84 [.pointer (some ⟨g, 0, none⟩), .int .i64 (p : Int)] * (R))))))
      have HP3 : Hid (D3.pend.length ≤ D.pend.length + (2 * k + 1)) := by
        have h1 := HG3.out
        rw [hrf3] at h1
        have h2 : D3.pend.length ≤ D2.pend.length + 0 := h1
        have h3 := HP2.out
        show _ ≤ _
        omega
      clear hm2 hs' hrf3 HF3 HRF3 HG3 HB2 HM2 HP2
      have HX0 : Hid (ioCommit p (zs.map (·.1)) D = ((ioHomes p ((zs.map (·.1)).drop 0)).and fun _ => ioFlush.and fun _ => (ioFalls m1).and fun _ => ioC6 (zs.map (·.1))) D3) := by show _ = _; rw [List.drop_zero]; exact HB3.out
      clear HB3
      go_wp2_with fail
      go_loopw [8, 50] (fun _ kv wr => ∃ (k2 : Nat) (Dk : Dev), k2 ≤ k ∧ kv = .int .i64 k2 ∧ Dk.pend.length ≤ D.pend.length + (2 * k + 1) + 2 * k2 ∧ ioCommit p (zs.map (·.1)) D = ((ioHomes p ((zs.map (·.1)).drop k2)).and fun _ => ioFlush.and fun _ => (ioFalls m1).and fun _ => ioC6 (zs.map (·.1))) Dk ∧ Mem wb wr (devAt T8 g Dk * (pts (w0.heap.size + 1) 5 (byts m1) * (pts w0.heap.size 84 [.pointer (some ⟨g, 0, none⟩), .int .i64 (p : Int)] * R)))) (fun _ kv _ => k - (intOf kv).toNat)
      case atStart => exact ⟨0, D3, by omega, rfl, by have := HP3.out; omega, HX0.out, HM3.out⟩
      case round =>
        obtain ⟨k2, Dk, hk2, rfl, hpd, hio, hm⟩ := hrel
        have HM := hid hm
        have HIO := hid hio
        clear HM3 HX0 HP3 hm hio
        by_cases hlt : k2 < k
        · obtain ⟨z, hz⟩ : ∃ z, zs[k2]? = some z := ⟨zs[k2]'(by omega), List.getElem?_eq_getElem _⟩
          obtain ⟨hp0, hp1, hsz⟩ := HS.out wr HM.out.right.right.right k2 z hz
          obtain ⟨zp, zl⟩ := HZ.out z (List.mem_of_getElem? hz)
          have HDC : Hid ((zs.map (·.1)).drop k2 = z.1 :: (zs.map (·.1)).drop (k2 + 1)) := by
            show _ = _
            obtain ⟨hlt2, hzk⟩ := List.getElem?_eq_some_iff.1 hz
            rw [drop_cons _ k2 (by rw [List.length_map]; exact hlt2), List.getElem_map, hzk]
          have HZK := hid hz
          clear hz
          obtain ⟨⟨nn, pg⟩, ba, bc⟩ := z
          simp only at hp0 hp1 hsz zp zl HDC
          obtain ⟨pb, po, rfl⟩ := hsz.addr (by omega)
          have hble := hsz.le
          have hbcap := hsz.cap
          have HSP : Hid (∀ w' X, Mem wb w' (X * R) → Sl w' (some ⟨pb, po, none⟩) 1024 bc (byts pg)) := by
            show ∀ w' X, _
            intro w' X h'
            exact (HS.out w' h'.right k2 _ HZK.out).2.2
          have kn : (k2 : Int) < (k : Int) := by omega
          clear hsz HZK
          have HIO2 : Hid (ioCommit p (zs.map (·.1)) D = ((ioBoth (homeOf p nn) pg).and fun _ => (ioHomes p ((zs.map (·.1)).drop (k2 + 1))).and fun _ => ioFlush.and fun _ => (ioFalls m1).and fun _ => ioC6 (zs.map (·.1))) Dk) := by
            show _ = _
            rw [HIO.out, HDC.out]
            exact congrFun (Io.and_assoc _ _ _) Dk
          have HGR : Hid (Io.Grows (ioBoth (homeOf p nn) pg) 2) := hid (Io.Grows.both _ _)
          have hso : homeOf p nn ≤ 100000 := by first | (unfold slotOf; omega) | (unfold homeOf; omega)
          have HSO : Hid (∀ w, Calls Tryz.prog 47 #[(.agg #[.pointer (some ⟨g, 0, none⟩), .int .i64 (p : Int)]), .int .i64 (nn : Int)] w fun e w' => e = .returned (.int .i64 ((homeOf p nn : Nat) : Int)) ∧ Fr w.heap.size [] w w') := fun w => home_any w _ nn p (by omega) (by omega)
          generalize homeOf p nn = so at *
          have HB : Hid (∀ w R', Mem wb w (devAt T8 g Dk * R') → (∀ w', Mem wb w' R' → Sl w' (some ⟨pb, po, none⟩) 1024 bc (byts pg)) → Calls Tryz.prog 56 #[(.agg #[.pointer (some ⟨g, 0, none⟩), .int .i64 (p : Int)]), .int .i64 (so : Int), .slice (some ⟨pb, po, none⟩) 1024 bc] w (IoSays wb g R' (ioBoth so pg Dk) unitB)) := by
            show ∀ w R', _
            intro w R' h1 h2
            exact both_any wb w R' g Dk h1 (by omega) so (by omega) _ pb po bc pg zl hble hbcap h2
          obtain ⟨rb, HRB⟩ : ∃ r, Hid (ioBoth so pg Dk = r) := ⟨_, hid rfl⟩
          have HG : Hid (rb.2.pend.length ≤ Dk.pend.length + 2) := by rw [← HRB.out]; exact hid (HGR.out Dk)
          have HER : Hid (∀ c D', rb = (.error c, D') → ioCommit p (zs.map (·.1)) D = (.error c, D')) := by
            show ∀ c D', _
            intro c D' hrb
            rw [HIO2.out]
            exact Io.and_error (by rw [HRB.out, hrb])
          have HNX : Hid (∀ D', rb = (.ok (), D') → ioCommit p (zs.map (·.1)) D = ((ioHomes p ((zs.map (·.1)).drop (k2 + 1))).and fun _ => ioFlush.and fun _ => (ioFalls m1).and fun _ => ioC6 (zs.map (·.1))) D') := by
            show ∀ D', _
            intro D' hrb
            rw [HIO2.out]
            exact Io.and_ok (by rw [HRB.out, hrb])
          rw [HRB.out] at HB
          clear HIO HIO2 HGR HRB HDC
          have HMA := hid ((HM.out.alloc [.int .i64 (nn : Int), .slice (some ⟨pb, po, none⟩) 1024 bc] 52).eq (by ac_rfl : _ = devAt T8 g Dk * (pts wr.heap.size 52 [.int .i64 (nn : Int), .slice (some ⟨pb, po, none⟩) 1024 bc] * (pts w0.heap.size 84 [.pointer (some ⟨g, 0, none⟩), .int .i64 (p : Int)] * (pts (w0.heap.size + 1) 5 (byts m1) * (R))))))
          clear HM
          go_wp2_with fail
          refine region_mem (by kernel_rfl) (V := fun jv x => match jv with | 0 => x = (.agg #[.pointer (some ⟨g, 0, none⟩), .int .i64 (p : Int)] : Value) | 1 => x = (.agg #[.pointer (some ⟨g, 0, none⟩), .int .i64 (p : Int)] : Value) | 2 => x = (.pointer (some ⟨wr.heap.size, 0, none⟩) : Value) | 3 => x = (.int .i64 (nn : Int) : Value) | 4 => x = (.int .i64 (so : Int) : Value) | 5 => x = (.pointer (some ⟨wr.heap.size, 1, none⟩) : Value) | 6 => x = (.slice (some ⟨pb, po, none⟩) 1024 bc : Value) | 7 => ∃ D2, x = (.tuple #[] : Value) ∧ rb = (Except.ok (), D2) | _ => True) (A := (fun L => (if L 7 then devAt T8 g rb.2 else devAt T8 g Dk) * (pts wr.heap.size 52 [.int .i64 (nn : Int), .slice (some ⟨pb, po, none⟩) 1024 bc] * (pts w0.heap.size 84 [.pointer (some ⟨g, 0, none⟩), .int .i64 (p : Int)] * (pts (w0.heap.size + 1) 5 (byts m1) * (R)))))) (Bs := []) HMA.out (fun L L' h => by show (if L 7 then _ else _) * _ = (if L' 7 then _ else _) * _; rw [h 7 (by decide)]) (show ([] : List Nat).Nodup by decide) (by kernel_rfl) (by kernel_rfl) ?_ ?_
          · refine ⟨?_, ?_, ?_, ?_, ?_, ?_, ?_, ?_, trivial⟩
            · refine Fine2.run trivial _ rfl (fun _ => rfl) rfl rfl (fun L a w R' hw hm hmk hf => ?_)
              have e2 : a.eval (.tmp 2) = (.pointer (some ⟨w0.heap.size, 0, none⟩) : Value) := (hf 2 (by decide +kernel)).old (by kernel_rfl)
              simp only [Act.eval, Array.getD_eq_getD_getElem?] at e2
              have hbx := hm.left.right.right
              have q0 := hbx.cell 0
              have q1 := hbx.cell 1
              simp only [List.getElem?_cons_zero, List.getElem?_cons_succ] at q0 q1
              simp [execOp, resolve, invoke, builtin, go_sem, e2, q0, q1]
            · refine Fine2.run trivial _ rfl (fun _ => rfl) rfl rfl (fun L a w R' hw hm hmk hf => ?_)
              have e2 : a.eval (.tmp 2) = (.pointer (some ⟨w0.heap.size, 0, none⟩) : Value) := (hf 2 (by decide +kernel)).old (by kernel_rfl)
              simp only [Act.eval, Array.getD_eq_getD_getElem?] at e2
              have hbx := hm.left.right.right
              have q0 := hbx.cell 0
              have q1 := hbx.cell 1
              simp only [List.getElem?_cons_zero, List.getElem?_cons_succ] at q0 q1
              simp [execOp, resolve, invoke, builtin, go_sem, e2, q0, q1]
            · refine Fine2.run trivial _ rfl (fun _ => rfl) rfl rfl (fun L a w R' hw hm hmk hf => ?_)
              have e8 : a.eval (.tmp 8) = (.pointer (some ⟨wr.heap.size, 0, none⟩) : Value) := (hf 8 (by decide +kernel)).old (by kernel_rfl)
              simp only [Act.eval, Array.getD_eq_getD_getElem?] at e8
              simp [execOp, resolve, invoke, builtin, go_sem, e8]
            · refine Fine2.run trivial _ rfl (fun _ => rfl) rfl rfl (fun L a w R' hw hm hmk hf => ?_)
              have e56 : a.eval (.tmp 56) = (.pointer (some ⟨wr.heap.size, 0, none⟩) : Value) := (hf 56 (by decide +kernel)).new 2 (by kernel_rfl) (by kernel_rfl)
              simp only [Act.eval, Array.getD_eq_getD_getElem?] at e56
              have hbx := hm.left.right
              have q0 := hbx.cell 0
              simp only [List.getElem?_cons_zero, List.getElem?_cons_succ] at q0
              simp [execOp, resolve, invoke, builtin, go_sem, e56, q0]
            · refine Fine2.call trivial rfl 47 #[(.agg #[.pointer (some ⟨g, 0, none⟩), .int .i64 (p : Int)]), (.int .i64 (nn : Int))] (fun a w hf => ?_) (fun L a w R' hL hw hm hmk hf => ?_)
              · have e55 : a.eval (.tmp 55) = (.agg #[.pointer (some ⟨g, 0, none⟩), .int .i64 (p : Int)] : Value) := (hf 55 (by decide +kernel)).new 1 (by kernel_rfl) (by kernel_rfl)
                have e57 : a.eval (.tmp 57) = (.int .i64 (nn : Int) : Value) := (hf 57 (by decide +kernel)).new 3 (by kernel_rfl) (by kernel_rfl)
                simp only [Act.eval, Array.getD_eq_getD_getElem?] at e55 e57
                simp [execOp, resolve, invoke, go_sem, e55, e57]
              · refine (HSO.out w).mono ?_
                rintro e w' ⟨rfl, hf'⟩
                refine ⟨_, rfl, rfl, ?_⟩
                have hm2 : Mem wb w' ((if L 7 then devAt T8 g rb.2 else devAt T8 g Dk) * (pts wr.heap.size 52 [.int .i64 (nn : Int), .slice (some ⟨pb, po, none⟩) 1024 bc] * (pts w0.heap.size 84 [.pointer (some ⟨g, 0, none⟩), .int .i64 (p : Int)] * (pts (w0.heap.size + 1) 5 (byts m1) * (R)))) * R') := hm.fr hf'
                show Mem wb w' ((if doneSet L 4 7 then devAt T8 g rb.2 else devAt T8 g Dk) * (pts wr.heap.size 52 [.int .i64 (nn : Int), .slice (some ⟨pb, po, none⟩) 1024 bc] * (pts w0.heap.size 84 [.pointer (some ⟨g, 0, none⟩), .int .i64 (p : Int)] * (pts (w0.heap.size + 1) 5 (byts m1) * (R)))) * (emp * R'))
                rw [show doneSet L 4 7 = L 7 from rfl, emp_sep]
                exact hm2
            · refine Fine2.run trivial _ rfl (fun _ => rfl) rfl rfl (fun L a w R' hw hm hmk hf => ?_)
              have e8 : a.eval (.tmp 8) = (.pointer (some ⟨wr.heap.size, 0, none⟩) : Value) := (hf 8 (by decide +kernel)).old (by kernel_rfl)
              simp only [Act.eval, Array.getD_eq_getD_getElem?] at e8
              simp [execOp, resolve, invoke, builtin, go_sem, e8]
            · refine Fine2.run trivial _ rfl (fun _ => rfl) rfl rfl (fun L a w R' hw hm hmk hf => ?_)
              have e59 : a.eval (.tmp 59) = (.pointer (some ⟨wr.heap.size, 1, none⟩) : Value) := (hf 59 (by decide +kernel)).new 5 (by kernel_rfl) (by kernel_rfl)
              simp only [Act.eval, Array.getD_eq_getD_getElem?] at e59
              have hbx := hm.left.right
              have q0 := hbx.cell 1
              simp only [List.getElem?_cons_zero, List.getElem?_cons_succ] at q0
              simp [execOp, resolve, invoke, builtin, go_sem, e59, q0]
            · refine Fine2.callP trivial rfl 56 #[(.agg #[.pointer (some ⟨g, 0, none⟩), .int .i64 (p : Int)]), (.int .i64 (so : Int)), (.slice (some ⟨pb, po, none⟩) 1024 bc)] (fun a w hf => ?_) (fun L a w R' hL hw hm hmk hf hdf hcl => ?_)
              · have e54 : a.eval (.tmp 54) = (.agg #[.pointer (some ⟨g, 0, none⟩), .int .i64 (p : Int)] : Value) := (hf 54 (by decide +kernel)).new 0 (by kernel_rfl) (by kernel_rfl)
                have e58 : a.eval (.tmp 58) = (.int .i64 (so : Int) : Value) := (hf 58 (by decide +kernel)).new 4 (by kernel_rfl) (by kernel_rfl)
                have e60 : a.eval (.tmp 60) = (.slice (some ⟨pb, po, none⟩) 1024 bc : Value) := (hf 60 (by decide +kernel)).new 6 (by kernel_rfl) (by kernel_rfl)
                simp only [Act.eval, Array.getD_eq_getD_getElem?] at e54 e58 e60
                simp [execOp, resolve, invoke, go_sem, e54, e58, e60]
              · have hm : Mem wb w ((if L 7 then devAt T8 g rb.2 else devAt T8 g Dk) * (pts wr.heap.size 52 [.int .i64 (nn : Int), .slice (some ⟨pb, po, none⟩) 1024 bc] * (pts w0.heap.size 84 [.pointer (some ⟨g, 0, none⟩), .int .i64 (p : Int)] * (pts (w0.heap.size + 1) 5 (byts m1) * (R)))) * R') := hm
                rw [hL] at hm
                have hm : Mem wb w (devAt T8 g Dk * (pts wr.heap.size 52 [.int .i64 (nn : Int), .slice (some ⟨pb, po, none⟩) 1024 bc] * (pts w0.heap.size 84 [.pointer (some ⟨g, 0, none⟩), .int .i64 (p : Int)] * (pts (w0.heap.size + 1) 5 (byts m1) * (R)))) * R') := hm
                refine (HB.out w (pts wr.heap.size 52 [.int .i64 (nn : Int), .slice (some ⟨pb, po, none⟩) 1024 bc] * (pts w0.heap.size 84 [.pointer (some ⟨g, 0, none⟩), .int .i64 (p : Int)] * (pts (w0.heap.size + 1) 5 (byts m1) * (R))) * R') (hm.eq (by ac_rfl)) (fun w' h' => HSP.out w' _ (h'.eq (by ac_rfl)))).mono ?_
                intro e w' hs'
                rcases hrb : rb with ⟨c1 | u1, D2⟩
                · rw [hrb] at hs'
                  obtain ⟨rfl, hc, hm2⟩ := hs'.error rfl
                  exact .inr ⟨_, rfl, hdf, IoSays.mkError (HER.out _ _ hrb) hc (hm2.eq (by ac_rfl) : Mem wb w' ((R' * (pts wr.heap.size 52 [.int .i64 (nn : Int), .slice (some ⟨pb, po, none⟩) 1024 bc] * (pts w0.heap.size 84 [.pointer (some ⟨g, 0, none⟩), .int .i64 (p : Int)] * (pts (w0.heap.size + 1) 5 (byts m1))))) * (devAt T8 g D2 * R))).right⟩
                · rw [hrb] at hs'
                  obtain ⟨rfl, hm2⟩ := hs'.unit rfl
                  refine .inl ⟨_, rfl, ⟨D2, rfl, rfl⟩, ?_⟩
                  show Mem wb w' ((if doneSet L 7 7 then devAt T8 g (Except.ok (), D2).2 else devAt T8 g Dk) * (pts wr.heap.size 52 [.int .i64 (nn : Int), .slice (some ⟨pb, po, none⟩) 1024 bc] * (pts w0.heap.size 84 [.pointer (some ⟨g, 0, none⟩), .int .i64 (p : Int)] * (pts (w0.heap.size + 1) 5 (byts m1) * (R)))) * (emp * R'))
                  rw [show doneSet L 7 7 = true from rfl, emp_sep]
                  exact hm2.eq (by show _ = devAt T8 g D2 * (pts wr.heap.size 52 [.int .i64 (nn : Int), .slice (some ⟨pb, po, none⟩) 1024 bc] * (pts w0.heap.size 84 [.pointer (some ⟨g, 0, none⟩), .int .i64 (p : Int)] * (pts (w0.heap.size + 1) 5 (byts m1) * (R)))) * R'; ac_rfl)
          · intro u w9 hu hm9
            obtain ⟨D2, hu61, hrb⟩ := hu 61 7 rfl
            have hm8 := hm9.left
            rw [hrb] at hm8
            have HPD : Hid (D2.pend.length ≤ D.pend.length + (2 * k + 1) + 2 * (k2 + 1)) := by have h1 := HG.out; rw [hrb] at h1; show _ ≤ _; have h2 : D2.pend.length ≤ Dk.pend.length + 2 := h1; omega
            have HN2 := hid (HNX.out D2 hrb)
            have hm8b : Mem wb w9 (devAt T8 g D2 * (pts wr.heap.size 52 [.int .i64 (nn : Int), .slice (some ⟨pb, po, none⟩) 1024 bc] * (pts w0.heap.size 84 [.pointer (some ⟨g, 0, none⟩), .int .i64 (p : Int)] * (pts (w0.heap.size + 1) 5 (byts m1) * (R))))) := hm8
            have HMC := hid ((hm8b.eq (by ac_rfl : _ = pts wr.heap.size 52 [.int .i64 (nn : Int), .slice (some ⟨pb, po, none⟩) 1024 bc] * (devAt T8 g D2 * (pts (w0.heap.size + 1) 5 (byts m1) * (pts w0.heap.size 84 [.pointer (some ⟨g, 0, none⟩), .int .i64 (p : Int)] * R))))).right)
            simp only [putAll]
            clear hm9 hm8 hm8b hu HG HER HNX HB HMA HSP HSO hrb hp0 hp1
            go_simp
            go_wp2_with fail
            go_roundw
            case rel => exact ⟨k2 + 1, D2, by omega, by go_num, HPD.out, HN2.out, HMC.out⟩
            case measure => simp [intOf] <;> omega
        · obtain rfl : k2 = k := by omega
          have HB4 : Hid (ioCommit p (zs.map (·.1)) D = (ioFlush.and fun _ => (ioFalls m1).and fun _ => ioC6 (zs.map (·.1))) Dk) := by
            show _ = _
            rw [HIO.out, List.drop_of_length_le (by rw [HLL.out]; exact Nat.le_refl _)]
            rfl
          have HP4 := hid hpd
          have HM4 := HM
          obtain ⟨q0, q1⟩ := HBX.out _ _ HM.out.right.right
          have HF5 := hid (dflush_any wb wr _ g Dk HM.out (by omega) (p : Int))
          obtain ⟨rf5, HRF5⟩ : ∃ r, Hid (ioFlush Dk = r) := ⟨_, hid rfl⟩
          have HG5 : Hid (rf5.2.pend.length ≤ Dk.pend.length + 0) := by rw [← HRF5.out]; exact hid (Io.Grows.flush Dk)
          rw [HRF5.out] at HF5
          clear HIO HM hpd
          go_wp2_with fail
          refine HF5.out.mono ?_
          intro e w5 hs'
          rcases hrf5 : rf5 with ⟨e5 | u5, D5⟩
          · rw [hrf5] at hs'
            obtain ⟨rfl, hc, hm2⟩ := hs'.error rfl
            dsimp only
            exact ⟨rfl, IoSays.mkError (HB4.out.trans (Io.and_error (by rw [HRF5.out, hrf5]))) hc (hm2.eq (by ac_rfl) : Mem wb w5 ((pts (w0.heap.size + 1) 5 (byts m1) * (pts w0.heap.size 84 [.pointer (some ⟨g, 0, none⟩), .int .i64 (p : Int)])) * (devAt T8 g D5 * R))).right⟩
          rw [hrf5] at hs'
          obtain ⟨rfl, hm2⟩ := hs'.unit rfl
          dsimp only
          have HB5 : Hid (ioCommit p (zs.map (·.1)) D = ((ioFalls m1).and fun _ => ioC6 (zs.map (·.1))) D5) := hid (HB4.out.trans (Io.and_ok (by rw [HRF5.out, hrf5])))
          have HM5 := hid ((hm2.eq (by ac_rfl) : Mem wb w5 (devAt T8 g D5 * (pts (w0.heap.size + 1) 5 (byts m1) * (pts w0.heap.size 84 [.pointer (some ⟨g, 0, none⟩), .int .i64 (p : Int)] * (R))))))
          have HP5 : Hid (D5.pend.length ≤ D.pend.length + (2 * k2 + 1) + 2 * k2) := by
            have h1 := HG5.out
            rw [hrf5] at h1
            have h2 : D5.pend.length ≤ Dk.pend.length + 0 := h1
            have h3 := HP4.out
            show _ ≤ _
            omega
          clear hm2 hs' hrf5 HF5 HRF5 HG5 HB4 HM4 HP4
          obtain ⟨q0, q1⟩ := HBX.out _ _ HM5.out.right.right
          have hr5 : Mem wb w5 (devAt T8 g D5 * (row 5 1 (some ⟨(w0.heap.size + 1), 0, none⟩) 512 512 (byts m1) * (pts w0.heap.size 84 [.pointer (some ⟨g, 0, none⟩), .int .i64 (p : Int)] * R))) := ((Mem.of_row rfl (by rw [byts_length, HML1.out]) (Nat.le_refl _) (by omega) (by rw [byts_length, HML1.out]; simp) ((HM5.out.p1.eq (by rw [List.append_nil]) : Mem wb w5 (pts (w0.heap.size + 1) 5 (byts m1 ++ []) * _)))) : Mem wb w5 (row 5 1 (some ⟨(w0.heap.size + 1), 0, none⟩) 512 512 (byts m1) * _)).p1
          have hpd := HP5.out
          have HF6 := hid (falls_any wb w5 _ g D5 _ _ m1 HML1.out hr5 (by omega) (p : Int))
          obtain ⟨rf6, HRF6⟩ : ∃ r, Hid (ioFalls m1 D5 = r) := ⟨_, hid rfl⟩
          have HG6 : Hid (rf6.2.pend.length ≤ D5.pend.length + 1) := by rw [← HRF6.out]; exact hid (Io.Grows.falls m1 D5)
          rw [HRF6.out] at HF6
          clear hr5 hpd
          go_wp2_with fail
          refine HF6.out.mono ?_
          intro e w6 hs'
          rcases hrf6 : rf6 with ⟨e6 | u6, D6⟩
          · rw [hrf6] at hs'
            obtain ⟨rfl, hc, hm2⟩ := hs'.error rfl
            dsimp only
            exact ⟨rfl, IoSays.mkError (HB5.out.trans (Io.and_error (by rw [HRF6.out, hrf6]))) hc (hm2.eq (by ac_rfl) : Mem wb w6 ((row 5 1 (some ⟨(w0.heap.size + 1), 0, none⟩) 512 512 (byts (m1.set 511 0)) * (pts w0.heap.size 84 [.pointer (some ⟨g, 0, none⟩), .int .i64 (p : Int)])) * (devAt T8 g D6 * R))).right⟩
          rw [hrf6] at hs'
          obtain ⟨rfl, hm2⟩ := hs'.unit rfl
          dsimp only
          have HB6 : Hid (ioCommit p (zs.map (·.1)) D = (ioC6 (zs.map (·.1))) D6) := hid (HB5.out.trans (Io.and_ok (by rw [HRF6.out, hrf6])))
          have HM6 := hid ((hm2.eq (by ac_rfl) : Mem wb w6 (devAt T8 g D6 * (row 5 1 (some ⟨(w0.heap.size + 1), 0, none⟩) 512 512 (byts (m1.set 511 0)) * (pts w0.heap.size 84 [.pointer (some ⟨g, 0, none⟩), .int .i64 (p : Int)] * (R))))))
          have HP6 : Hid (D6.pend.length ≤ D.pend.length + (2 * k2 + 2) + 2 * k2) := by
            have h1 := HG6.out
            rw [hrf6] at h1
            have h2 : D6.pend.length ≤ D5.pend.length + 1 := h1
            have h3 := HP5.out
            show _ ≤ _
            omega
          clear hm2 hs' hrf6 HF6 HRF6 HG6 HB5 HM5 HP5
          have HM6b := hid ((HM6.out.eq (by ac_rfl : _ = row 5 1 (some ⟨(w0.heap.size + 1), 0, none⟩) 512 512 (byts (m1.set 511 0)) * (devAt T8 g D6 * (pts w0.heap.size 84 [.pointer (some ⟨g, 0, none⟩), .int .i64 (p : Int)] * R)))).right)
          clear HM6
          have hpd := HP6.out
          have HB : Hid (∀ w R' g2, Mem wb w (devAt T8 g D6 * R') → Sl w (some ⟨g2, 0, none⟩) 512 512 (byts sect0) → Calls Tryz.prog 59 #[(.agg #[.pointer (some ⟨g, 0, none⟩), .int .i64 (p : Int)]), .int .i64 0, .slice (some ⟨g2, 0, none⟩) 512 512] w (IoSays wb g R' (ioWrite 0 sect0 D6) unitB)) := by
            show ∀ w R' g2, _
            intro w R' g2 h1 h2
            exact dwrite_any wb w R' g D6 h1 (by omega) 0 (by omega) _ _ 512 512 sect0 h2
          obtain ⟨rb, HRB⟩ : ∃ r, Hid (ioWrite 0 sect0 D6 = r) := ⟨_, hid rfl⟩
          have HG : Hid (rb.2.pend.length ≤ D6.pend.length + 1) := by rw [← HRB.out]; exact hid (Io.Grows.write 0 sect0 D6)
          have HER : Hid (∀ c D', rb = (.error c, D') → ioCommit p (zs.map (·.1)) D = (.error c, D')) := by
            show ∀ c D', _
            intro c D' hrb
            rw [HB6.out]
            exact Io.and_error (by rw [HRB.out, hrb])
          have HNX : Hid (∀ D', rb = (.ok (), D') → ioCommit p (zs.map (·.1)) D = ((ioBlank ((zs.map (·.1)).drop 0)).and fun _ => ioFlush) D') := by
            show ∀ D', _
            intro D' hrb
            rw [HB6.out, List.drop_zero]
            exact Io.and_ok (by rw [HRB.out, hrb])
          rw [HRB.out] at HB
          clear HRB HB6 hpd
          go_wp2_with fail
          refine region_mem (by kernel_rfl) (V := fun jv x => match jv with | 0 => x = (.agg #[.pointer (some ⟨g, 0, none⟩), .int .i64 (p : Int)] : Value) | 1 => ∃ g2, x = (.slice (some ⟨g2, 0, none⟩) 512 512 : Value) | 2 => ∃ D2, x = (.tuple #[] : Value) ∧ rb = (Except.ok (), D2) | _ => True) (A := (fun L => (if L 2 then devAt T8 g rb.2 else devAt T8 g D6) * (pts w0.heap.size 84 [.pointer (some ⟨g, 0, none⟩), .int .i64 (p : Int)] * (R)))) (Bs := [(1, none, blkB 5 512 (byts sect0))]) HM6b.out (fun L L' h => by show (if L 2 then _ else _) * _ = (if L' 2 then _ else _) * _; rw [h 2 (by decide)]) (show ([1] : List Nat).Nodup by decide) (by kernel_rfl) (by kernel_rfl) ?_ ?_
          · refine ⟨?_, ?_, ?_, trivial⟩
            · refine Fine2.run trivial _ rfl (fun _ => rfl) rfl rfl (fun L a w R' hw hm hmk hf => ?_)
              have e2 : a.eval (.tmp 2) = (.pointer (some ⟨w0.heap.size, 0, none⟩) : Value) := (hf 2 (by decide +kernel)).old (by kernel_rfl)
              simp only [Act.eval, Array.getD_eq_getD_getElem?] at e2
              have hbx := hm.left.right
              have q0 := hbx.cell 0
              have q1 := hbx.cell 1
              simp only [List.getElem?_cons_zero, List.getElem?_cons_succ] at q0 q1
              simp [execOp, resolve, invoke, builtin, go_sem, e2, q0, q1]
            · refine Fine2.open trivial (fun L a w R' hL hw hm hmk hf => ?_)
              rw [eaten_none rfl, emp_sep] at hm
              skip
              refine ⟨(.slice (some ⟨w.heap.size, 0, none⟩) 512 512), w.alloc (.cells (byts sect0).toArray 5), ?_, ⟨_, rfl⟩, ?_⟩
              · simp [execOp, resolve, invoke, builtin, go_sem, HMK.out]
              · exact (Mem.blkB.2 ⟨_, rfl, hm.alloc (byts sect0) 5⟩ : Mem wb _ (blkB 5 512 (byts sect0) _ * _)).p1
            · refine .inl ⟨trivial, fun L a w Kq Rq hL hw hm hmk hf hdf hcl hK => ?_⟩
              rw [eaten_none rfl, emp_sep] at hm
              obtain ⟨R3, hR3⟩ := hmk [true] (by kernel_rfl)
              have hm : Mem wb w ((if L 2 then devAt T8 g rb.2 else devAt T8 g D6) * (pts w0.heap.size 84 [.pointer (some ⟨g, 0, none⟩), .int .i64 (p : Int)] * (R)) * Rq) := hm
              rw [hL] at hm
              have hm : Mem wb w (devAt T8 g D6 * (pts w0.heap.size 84 [.pointer (some ⟨g, 0, none⟩), .int .i64 (p : Int)] * (R)) * Rq) := hm
              have hm' := hm
              rw [hR3] at hm'
              obtain ⟨g2, y, m1⟩ := Mem.blkB.1 (show Mem wb w (_ * (_ * R3)) from hm').p1
              have e69 : a.eval (.tmp 69) = .slice (some ⟨g2, 0, none⟩) 512 512 := y
              have e68 : a.eval (.tmp 68) = (.agg #[.pointer (some ⟨g, 0, none⟩), .int .i64 (p : Int)] : Value) := (hf 68 (by decide +kernel)).new 0 (by kernel_rfl) (by kernel_rfl)
              simp only [Act.eval, Array.getD_eq_getD_getElem?] at e68 e69
              unfold Oper.wp
              rw [show (execOp a.eval _).run Tryz.prog w = .ok (.enter 59 #[(.agg #[.pointer (some ⟨g, 0, none⟩), .int .i64 (p : Int)]), .int .i64 0, .slice (some ⟨g2, 0, none⟩) 512 512]) w from by simp [execOp, resolve, invoke, go_sem, e68, e69]]
              refine (HB.out w (pts w0.heap.size 84 [.pointer (some ⟨g, 0, none⟩), .int .i64 (p : Int)] * (R) * Rq) g2 (hm.eq (by ac_rfl)) (m1.blk.1.sl_all 512 (by rw [byts_length]; exact zrs_length 512) (by omega))).mono ?_
              intro e w' hs'
              rcases hrb : rb with ⟨c1 | u1, D2⟩
              · rw [hrb] at hs'
                obtain ⟨rfl, hc, hm2⟩ := hs'.error rfl
                exact ⟨hdf, IoSays.mkError (HER.out _ _ hrb) hc (hm2.eq (by ac_rfl) : Mem wb w' ((Rq * (pts w0.heap.size 84 [.pointer (some ⟨g, 0, none⟩), .int .i64 (p : Int)])) * (devAt T8 g D2 * R))).right⟩
              · rw [hrb] at hs'
                obtain ⟨rfl, hm2⟩ := hs'.unit rfl
                refine hK _ _ ⟨D2, rfl, hrb⟩ ?_
                show Mem wb w' ((if doneSet L 2 2 then devAt T8 g rb.2 else devAt T8 g D6) * (pts w0.heap.size 84 [.pointer (some ⟨g, 0, none⟩), .int .i64 (p : Int)] * (R)) * (emp * Rq))
                rw [show doneSet L 2 2 = true from rfl, emp_sep, hrb]
                exact hm2.eq (by show _ = devAt T8 g D2 * (pts w0.heap.size 84 [.pointer (some ⟨g, 0, none⟩), .int .i64 (p : Int)] * (R)) * Rq; ac_rfl)
          · intro u w9 hu hm9
            obtain ⟨D7, hu70, hrb⟩ := hu 70 2 rfl
            have hm8 := hm9.left
            rw [hrb] at hm8
            have HM7 : Hid (Mem wb w9 (devAt T8 g D7 * (pts w0.heap.size 84 [.pointer (some ⟨g, 0, none⟩), .int .i64 (p : Int)] * R))) := hm8
            have HX7 := hid (HNX.out D7 hrb)
            have HP7 : Hid (D7.pend.length ≤ D.pend.length + (2 * k2 + 3) + 2 * k2) := by
              have h1 := HG.out
              rw [hrb] at h1
              have h2 : D7.pend.length ≤ D6.pend.length + 1 := h1
              have h3 := HP6.out
              show _ ≤ _
              omega
            simp only [putAll]
            clear hm9 hm8 hu HG HER HNX HB HM6b hrb HP6
            go_simp
            go_wp2_with fail
            go_loopw [10, 73] (fun _ kv wr => ∃ (k3 : Nat) (Dk : Dev), k3 ≤ k2 ∧ kv = .int .i64 k3 ∧ Dk.pend.length ≤ D.pend.length + (2 * k2 + 3) + 2 * k2 + 2 * k3 ∧ ioCommit p (zs.map (·.1)) D = ((ioBlank ((zs.map (·.1)).drop k3)).and fun _ => ioFlush) Dk ∧ Mem wb wr (devAt T8 g Dk * (pts w0.heap.size 84 [.pointer (some ⟨g, 0, none⟩), .int .i64 (p : Int)] * R))) (fun _ kv _ => k2 - (intOf kv).toNat)
            case atStart => exact ⟨0, D7, by omega, rfl, by have := HP7.out; omega, HX7.out, HM7.out⟩
            case round =>
              obtain ⟨k3, Dk, hk3, rfl, hpd, hio, hm⟩ := hrel
              have HM := hid hm
              have HIO := hid hio
              clear HM7 HX7 HP7 hm hio
              by_cases hlt : k3 < k2
              · obtain ⟨z, hz⟩ : ∃ z, zs[k3]? = some z := ⟨zs[k3]'(by omega), List.getElem?_eq_getElem _⟩
                obtain ⟨hp0, hp1, hsz⟩ := HS.out wr HM.out.right.right k3 z hz
                obtain ⟨zp, zl⟩ := HZ.out z (List.mem_of_getElem? hz)
                have HDC : Hid ((zs.map (·.1)).drop k3 = z.1 :: (zs.map (·.1)).drop (k3 + 1)) := by
                  show _ = _
                  obtain ⟨hlt2, hzk⟩ := List.getElem?_eq_some_iff.1 hz
                  rw [drop_cons _ k3 (by rw [List.length_map]; exact hlt2), List.getElem_map, hzk]
                have HZK := hid hz
                clear hz
                obtain ⟨⟨nn, pg⟩, ba, bc⟩ := z
                simp only at hp0 hp1 hsz zp zl HDC
                obtain ⟨pb, po, rfl⟩ := hsz.addr (by omega)
                have hble := hsz.le
                have hbcap := hsz.cap
                have HSP : Hid (∀ w' X, Mem wb w' (X * R) → Sl w' (some ⟨pb, po, none⟩) 1024 bc (byts pg)) := by
                  show ∀ w' X, _
                  intro w' X h'
                  exact (HS.out w' h'.right k3 _ HZK.out).2.2
                have kn : (k3 : Int) < (k2 : Int) := by omega
                clear hsz HZK
                have HIO2 : Hid (ioCommit p (zs.map (·.1)) D = ((ioBoth (slotOf nn) (zrs 1024)).and fun _ => (ioBlank ((zs.map (·.1)).drop (k3 + 1))).and fun _ => ioFlush) Dk) := by
                  show _ = _
                  rw [HIO.out, HDC.out]
                  exact congrFun (Io.and_assoc _ _ _) Dk
                have HGR : Hid (Io.Grows (ioBoth (slotOf nn) (zrs 1024)) 2) := hid (Io.Grows.both _ _)
                have hso : slotOf nn ≤ 100000 := by first | (unfold slotOf; omega) | (unfold homeOf; omega)
                have HSO : Hid (∀ w, Calls Tryz.prog 57 #[(.agg #[.pointer (some ⟨g, 0, none⟩), .int .i64 (p : Int)]), .int .i64 (nn : Int)] w fun e w' => e = .returned (.int .i64 ((slotOf nn : Nat) : Int)) ∧ Fr w.heap.size [] w w') := fun w => slot_any w _ nn (by omega) _
                generalize slotOf nn = so at *
                have HB : Hid (∀ w R' g2, Mem wb w (devAt T8 g Dk * R') → (∀ w', Mem wb w' R' → Sl w' (some ⟨g2, 0, none⟩) 1024 1024 (byts (zrs 1024))) → Calls Tryz.prog 56 #[(.agg #[.pointer (some ⟨g, 0, none⟩), .int .i64 (p : Int)]), .int .i64 (so : Int), .slice (some ⟨g2, 0, none⟩) 1024 1024] w (IoSays wb g R' (ioBoth so (zrs 1024) Dk) unitB)) := by
                  show ∀ w R' g2, _
                  intro w R' g2 h1 h2
                  exact both_any wb w R' g Dk h1 (by omega) so (by omega) _ g2 0 1024 (zrs 1024) (zrs_length 1024) (by omega) (by omega) h2
                obtain ⟨rb, HRB⟩ : ∃ r, Hid (ioBoth so (zrs 1024) Dk = r) := ⟨_, hid rfl⟩
                have HG : Hid (rb.2.pend.length ≤ Dk.pend.length + 2) := by rw [← HRB.out]; exact hid (HGR.out Dk)
                have HER : Hid (∀ c D', rb = (.error c, D') → ioCommit p (zs.map (·.1)) D = (.error c, D')) := by
                  show ∀ c D', _
                  intro c D' hrb
                  rw [HIO2.out]
                  exact Io.and_error (by rw [HRB.out, hrb])
                have HNX : Hid (∀ D', rb = (.ok (), D') → ioCommit p (zs.map (·.1)) D = ((ioBlank ((zs.map (·.1)).drop (k3 + 1))).and fun _ => ioFlush) D') := by
                  show ∀ D', _
                  intro D' hrb
                  rw [HIO2.out]
                  exact Io.and_ok (by rw [HRB.out, hrb])
                rw [HRB.out] at HB
                clear HIO HIO2 HGR HRB HDC
                have HMA := hid ((HM.out.alloc [.int .i64 (nn : Int), .slice (some ⟨pb, po, none⟩) 1024 bc] 52).eq (by ac_rfl : _ = devAt T8 g Dk * (pts wr.heap.size 52 [.int .i64 (nn : Int), .slice (some ⟨pb, po, none⟩) 1024 bc] * (pts w0.heap.size 84 [.pointer (some ⟨g, 0, none⟩), .int .i64 (p : Int)] * (R)))))
                clear HM
                go_wp2_with fail
                refine region_mem (by kernel_rfl) (V := fun jv x => match jv with | 0 => x = (.agg #[.pointer (some ⟨g, 0, none⟩), .int .i64 (p : Int)] : Value) | 1 => x = (.agg #[.pointer (some ⟨g, 0, none⟩), .int .i64 (p : Int)] : Value) | 2 => x = (.pointer (some ⟨wr.heap.size, 0, none⟩) : Value) | 3 => x = (.int .i64 (nn : Int) : Value) | 4 => x = (.int .i64 (so : Int) : Value) | 5 => ∃ g2, x = (.slice (some ⟨g2, 0, none⟩) 1024 1024 : Value) | 6 => ∃ D2, x = (.tuple #[] : Value) ∧ rb = (Except.ok (), D2) | _ => True) (A := (fun L => (if L 6 then devAt T8 g rb.2 else devAt T8 g Dk) * (pts wr.heap.size 52 [.int .i64 (nn : Int), .slice (some ⟨pb, po, none⟩) 1024 bc] * (pts w0.heap.size 84 [.pointer (some ⟨g, 0, none⟩), .int .i64 (p : Int)] * (R))))) (Bs := [(5, none, blkB 5 1024 (byts (zrs 1024)))]) HMA.out (fun L L' h => by show (if L 6 then _ else _) * _ = (if L' 6 then _ else _) * _; rw [h 6 (by decide)]) (show ([5] : List Nat).Nodup by decide) (by kernel_rfl) (by kernel_rfl) ?_ ?_
                · refine ⟨?_, ?_, ?_, ?_, ?_, ?_, ?_, trivial⟩
                  · refine Fine2.run trivial _ rfl (fun _ => rfl) rfl rfl (fun L a w R' hw hm hmk hf => ?_)
                    have e2 : a.eval (.tmp 2) = (.pointer (some ⟨w0.heap.size, 0, none⟩) : Value) := (hf 2 (by decide +kernel)).old (by kernel_rfl)
                    simp only [Act.eval, Array.getD_eq_getD_getElem?] at e2
                    have hbx := hm.left.right.right
                    have q0 := hbx.cell 0
                    have q1 := hbx.cell 1
                    simp only [List.getElem?_cons_zero, List.getElem?_cons_succ] at q0 q1
                    simp [execOp, resolve, invoke, builtin, go_sem, e2, q0, q1]
                  · refine Fine2.run trivial _ rfl (fun _ => rfl) rfl rfl (fun L a w R' hw hm hmk hf => ?_)
                    have e2 : a.eval (.tmp 2) = (.pointer (some ⟨w0.heap.size, 0, none⟩) : Value) := (hf 2 (by decide +kernel)).old (by kernel_rfl)
                    simp only [Act.eval, Array.getD_eq_getD_getElem?] at e2
                    have hbx := hm.left.right.right
                    have q0 := hbx.cell 0
                    have q1 := hbx.cell 1
                    simp only [List.getElem?_cons_zero, List.getElem?_cons_succ] at q0 q1
                    simp [execOp, resolve, invoke, builtin, go_sem, e2, q0, q1]
                  · refine Fine2.run trivial _ rfl (fun _ => rfl) rfl rfl (fun L a w R' hw hm hmk hf => ?_)
                    have e10 : a.eval (.tmp 10) = (.pointer (some ⟨wr.heap.size, 0, none⟩) : Value) := (hf 10 (by decide +kernel)).old (by kernel_rfl)
                    simp only [Act.eval, Array.getD_eq_getD_getElem?] at e10
                    simp [execOp, resolve, invoke, builtin, go_sem, e10]
                  · refine Fine2.run trivial _ rfl (fun _ => rfl) rfl rfl (fun L a w R' hw hm hmk hf => ?_)
                    have e79 : a.eval (.tmp 79) = (.pointer (some ⟨wr.heap.size, 0, none⟩) : Value) := (hf 79 (by decide +kernel)).new 2 (by kernel_rfl) (by kernel_rfl)
                    simp only [Act.eval, Array.getD_eq_getD_getElem?] at e79
                    have hbx := hm.left.right
                    have q0 := hbx.cell 0
                    simp only [List.getElem?_cons_zero, List.getElem?_cons_succ] at q0
                    simp [execOp, resolve, invoke, builtin, go_sem, e79, q0]
                  · refine Fine2.call trivial rfl 57 #[(.agg #[.pointer (some ⟨g, 0, none⟩), .int .i64 (p : Int)]), (.int .i64 (nn : Int))] (fun a w hf => ?_) (fun L a w R' hL hw hm hmk hf => ?_)
                    · have e78 : a.eval (.tmp 78) = (.agg #[.pointer (some ⟨g, 0, none⟩), .int .i64 (p : Int)] : Value) := (hf 78 (by decide +kernel)).new 1 (by kernel_rfl) (by kernel_rfl)
                      have e80 : a.eval (.tmp 80) = (.int .i64 (nn : Int) : Value) := (hf 80 (by decide +kernel)).new 3 (by kernel_rfl) (by kernel_rfl)
                      simp only [Act.eval, Array.getD_eq_getD_getElem?] at e78 e80
                      simp [execOp, resolve, invoke, go_sem, e78, e80]
                    · refine (HSO.out w).mono ?_
                      rintro e w' ⟨rfl, hf'⟩
                      refine ⟨_, rfl, rfl, ?_⟩
                      have hm2 : Mem wb w' ((if L 6 then devAt T8 g rb.2 else devAt T8 g Dk) * (pts wr.heap.size 52 [.int .i64 (nn : Int), .slice (some ⟨pb, po, none⟩) 1024 bc] * (pts w0.heap.size 84 [.pointer (some ⟨g, 0, none⟩), .int .i64 (p : Int)] * (R))) * R') := hm.fr hf'
                      show Mem wb w' ((if doneSet L 4 6 then devAt T8 g rb.2 else devAt T8 g Dk) * (pts wr.heap.size 52 [.int .i64 (nn : Int), .slice (some ⟨pb, po, none⟩) 1024 bc] * (pts w0.heap.size 84 [.pointer (some ⟨g, 0, none⟩), .int .i64 (p : Int)] * (R))) * (emp * R'))
                      rw [show doneSet L 4 6 = L 6 from rfl, emp_sep]
                      exact hm2
                  · refine Fine2.open trivial (fun L a w R' hL hw hm hmk hf => ?_)
                    rw [eaten_none rfl, emp_sep] at hm
                    skip
                    refine ⟨(.slice (some ⟨w.heap.size, 0, none⟩) 1024 1024), w.alloc (.cells (byts (zrs 1024)).toArray 5), ?_, ⟨_, rfl⟩, ?_⟩
                    · simp [execOp, resolve, invoke, builtin, go_sem, HMK2.out]
                    · exact (Mem.blkB.2 ⟨_, rfl, hm.alloc (byts (zrs 1024)) 5⟩ : Mem wb _ (blkB 5 1024 (byts (zrs 1024)) _ * _)).p1
                  · refine .inl ⟨trivial, fun L a w Kq Rq hL hw hm hmk hf hdf hcl hK => ?_⟩
                    rw [eaten_none rfl, emp_sep] at hm
                    obtain ⟨R3, hR3⟩ := hmk [true] (by kernel_rfl)
                    have hm : Mem wb w ((if L 6 then devAt T8 g rb.2 else devAt T8 g Dk) * (pts wr.heap.size 52 [.int .i64 (nn : Int), .slice (some ⟨pb, po, none⟩) 1024 bc] * (pts w0.heap.size 84 [.pointer (some ⟨g, 0, none⟩), .int .i64 (p : Int)] * (R))) * Rq) := hm
                    rw [hL] at hm
                    have hm : Mem wb w (devAt T8 g Dk * (pts wr.heap.size 52 [.int .i64 (nn : Int), .slice (some ⟨pb, po, none⟩) 1024 bc] * (pts w0.heap.size 84 [.pointer (some ⟨g, 0, none⟩), .int .i64 (p : Int)] * (R))) * Rq) := hm
                    have hm' := hm
                    rw [hR3] at hm'
                    obtain ⟨g2, y, m1⟩ := Mem.blkB.1 (show Mem wb w (_ * (_ * R3)) from hm').p1
                    have e82 : a.eval (.tmp 82) = .slice (some ⟨g2, 0, none⟩) 1024 1024 := y
                    have e77 : a.eval (.tmp 77) = (.agg #[.pointer (some ⟨g, 0, none⟩), .int .i64 (p : Int)] : Value) := (hf 77 (by decide +kernel)).new 0 (by kernel_rfl) (by kernel_rfl)
                    have e81 : a.eval (.tmp 81) = (.int .i64 (so : Int) : Value) := (hf 81 (by decide +kernel)).new 4 (by kernel_rfl) (by kernel_rfl)
                    simp only [Act.eval, Array.getD_eq_getD_getElem?] at e77 e81 e82
                    unfold Oper.wp
                    rw [show (execOp a.eval _).run Tryz.prog w = .ok (.enter 56 #[(.agg #[.pointer (some ⟨g, 0, none⟩), .int .i64 (p : Int)]), (.int .i64 (so : Int)), .slice (some ⟨g2, 0, none⟩) 1024 1024]) w from by simp [execOp, resolve, invoke, go_sem, e77, e81, e82]]
                    refine (HB.out w (pts wr.heap.size 52 [.int .i64 (nn : Int), .slice (some ⟨pb, po, none⟩) 1024 bc] * (pts w0.heap.size 84 [.pointer (some ⟨g, 0, none⟩), .int .i64 (p : Int)] * (R)) * Rq) g2 (hm.eq (by ac_rfl)) (fun w' h' => ?_)).mono ?_
                    · rw [hR3] at h'
                      obtain ⟨g3, y2, m2⟩ := Mem.blkB.1 (show Mem wb w' (_ * (_ * R3)) from h').p1
                      rw [y] at y2
                      simp only [Value.slice.injEq, Option.some.injEq, Addr.mk.injEq] at y2
                      obtain ⟨⟨rfl, -, -⟩, -, -⟩ := y2
                      exact m2.blk.1.sl_all 1024 (by rw [byts_length]; exact zrs_length 1024) (by omega)
                    intro e w' hs'
                    rcases hrb : rb with ⟨c1 | u1, D2⟩
                    · rw [hrb] at hs'
                      obtain ⟨rfl, hc, hm2⟩ := hs'.error rfl
                      exact ⟨hdf, IoSays.mkError (HER.out _ _ hrb) hc (hm2.eq (by ac_rfl) : Mem wb w' ((Rq * (pts wr.heap.size 52 [.int .i64 (nn : Int), .slice (some ⟨pb, po, none⟩) 1024 bc] * (pts w0.heap.size 84 [.pointer (some ⟨g, 0, none⟩), .int .i64 (p : Int)]))) * (devAt T8 g D2 * R))).right⟩
                    · rw [hrb] at hs'
                      obtain ⟨rfl, hm2⟩ := hs'.unit rfl
                      refine hK _ _ ⟨D2, rfl, hrb⟩ ?_
                      show Mem wb w' ((if doneSet L 6 6 then devAt T8 g rb.2 else devAt T8 g Dk) * (pts wr.heap.size 52 [.int .i64 (nn : Int), .slice (some ⟨pb, po, none⟩) 1024 bc] * (pts w0.heap.size 84 [.pointer (some ⟨g, 0, none⟩), .int .i64 (p : Int)] * (R))) * (emp * Rq))
                      rw [show doneSet L 6 6 = true from rfl, emp_sep, hrb]
                      exact hm2.eq (by show _ = devAt T8 g D2 * (pts wr.heap.size 52 [.int .i64 (nn : Int), .slice (some ⟨pb, po, none⟩) 1024 bc] * (pts w0.heap.size 84 [.pointer (some ⟨g, 0, none⟩), .int .i64 (p : Int)] * (R))) * Rq; ac_rfl)
                · intro u w9 hu hm9
                  obtain ⟨D2, hu83, hrb⟩ := hu 83 6 rfl
                  have hm8 := hm9.left
                  rw [hrb] at hm8
                  have HPD : Hid (D2.pend.length ≤ D.pend.length + (2 * k2 + 3) + 2 * k2 + 2 * (k3 + 1)) := by have h1 := HG.out; rw [hrb] at h1; show _ ≤ _; have h2 : D2.pend.length ≤ Dk.pend.length + 2 := h1; omega
                  have HN2 := hid (HNX.out D2 hrb)
                  have hm8b : Mem wb w9 (devAt T8 g D2 * (pts wr.heap.size 52 [.int .i64 (nn : Int), .slice (some ⟨pb, po, none⟩) 1024 bc] * (pts w0.heap.size 84 [.pointer (some ⟨g, 0, none⟩), .int .i64 (p : Int)] * (R)))) := hm8
                  have HMC := hid ((hm8b.eq (by ac_rfl : _ = pts wr.heap.size 52 [.int .i64 (nn : Int), .slice (some ⟨pb, po, none⟩) 1024 bc] * (devAt T8 g D2 * (pts w0.heap.size 84 [.pointer (some ⟨g, 0, none⟩), .int .i64 (p : Int)] * R)))).right)
                  simp only [putAll]
                  clear hm9 hm8 hm8b hu HG HER HNX HB HMA HSP HSO hrb hp0 hp1
                  go_simp
                  go_wp2_with fail
                  go_roundw
                  case rel => exact ⟨k3 + 1, D2, by omega, by go_num, HPD.out, HN2.out, HMC.out⟩
                  case measure => simp [intOf] <;> omega
              · obtain rfl : k3 = k2 := by omega
                have HB8 : Hid (ioCommit p (zs.map (·.1)) D = ioFlush Dk) := by
                  show _ = _
                  rw [HIO.out, List.drop_of_length_le (by rw [HLL.out]; exact Nat.le_refl _)]
                  rfl
                obtain ⟨q0, q1⟩ := HBX.out _ _ HM.out.right
                have HF := hid (dflush_any wb wr _ g Dk HM.out (by omega) (p : Int))
                rw [← HB8.out] at HF
                clear HIO HM hpd HB8
                obtain ⟨rf, HRF⟩ : ∃ r, Hid (ioCommit p (zs.map (·.1)) D = r) := ⟨_, hid rfl⟩
                rw [HRF.out] at HF
                go_wp2_with fail
                refine HF.out.mono ?_
                intro e w10 hs'
                rcases rf with ⟨e9 | u9, D9⟩
                · obtain ⟨rfl, hc, hm2⟩ := hs'.error rfl
                  dsimp only
                  exact ⟨rfl, IoSays.mkError HRF.out hc hm2.p1.right⟩
                · obtain ⟨rfl, hm2⟩ := hs'.unit rfl
                  dsimp only
                  have HM9 := hid hm2.p1.right
                  clear hm2 hs' HF
                  go_wp2_with fail
                  go_end0
                  exact IoSays.mkUnit HRF.out HM9.out
end Go.Proofs.YtpaebopmppbjbaaGreatDoor

/- The walk of wal's asked. -/
set_option linter.unusedVariables false
set_option linter.unusedSimpArgs false
namespace Go.Le
open Go Go.RowKit
/-- the first page that may not be written, and why: of numbers and lengths -/
def askedFrom (p : Nat) : Nat → List Nat → List (Int × Nat) → Nat × Int
  | _, _, [] => (0, 0)
  | k, s, x :: r => if x.1 < 0 ∨ (p : Int) ≤ x.1 then (k, 4) else if x.2 ≠ 1024 then (k, 82) else if x.1.toNat ∈ s then (k, 91) else askedFrom p (k + 1) (x.1.toNat :: s) r
def sawCells (p : Nat) (s : List Nat) : List Value := (List.range p).map fun i => Value.bool (decide (i ∈ s))
theorem sawCells_at (p : Nat) (s : List Nat) (i : Nat) (h : i < p) : (sawCells p s)[i]? = some (.bool (decide (i ∈ s))) := by
  simp [sawCells, h]
theorem sawCells_set (p : Nat) (s : List Nat) (i : Nat) : (sawCells p s).set i (.bool true) = sawCells p (i :: s) := by
  apply List.ext_getElem
  · simp [sawCells]
  · intro k h1 h2
    have hk : k < p := by simpa [sawCells] using h2
    rw [List.getElem_set]
    by_cases h : i = k
    · subst h; simp [sawCells]
    · have : k ≠ i := fun e => h e.symm
      simp [sawCells, h, this]
end Go.Le
namespace Go.Proofs.YtpaebopmppbjbaaGreatDoor
open Go Go.RowKit Go.Le
theorem boolinfo : (Tryz.prog.info? 4).map (fun i => (i.zero, i.size, i.bytes)) = some (some (.bool false), 1, 1) := by kernel_rfl

set_option maxRecDepth 20000 in
set_option maxHeartbeats 8000000 in
theorem wasked_any (wb w0 : World) (R : HP) (g gl p n b c : Nat) (a : Option Addr) (er : Value) (zs : List (Int × Option Addr × Nat × Nat)) (h : Mem wb w0 (pts gl 86 [.pointer (some ⟨g, 0, none⟩), .int .i64 (p : Int), er] * R)) (hp : p ≤ 250) (hn : zs.length = n) (hn2 : n ≤ 1000) (ha : 0 < n → a = some ⟨b, 0, none⟩)
    (hs : ∀ w', Mem wb w' R → ∀ k z, zs[k]? = some z → w'.cell? ⟨b, k * 2, none⟩ = some (.int .i64 z.1) ∧ w'.cell? ⟨b, k * 2 + 1, none⟩ = some (.slice z.2.1 z.2.2.1 z.2.2.2)) :
    Calls Tryz.prog 30 #[.pointer (some ⟨gl, 0, none⟩), .slice a n c] w0 fun e w' => e = .returned (.tuple #[.int .i64 ((askedFrom p 0 [] (zs.map fun z => (z.1, z.2.2.1))).1 : Int), .int .i64 (askedFrom p 0 [] (zs.map fun z => (z.1, z.2.2.1))).2]) ∧ Mem wb w' (pts gl 86 [.pointer (some ⟨g, 0, none⟩), .int .i64 (p : Int), er] * R) := by
  have HS : Hid (∀ w', Mem wb w' R → ∀ k z, zs[k]? = some z → w'.cell? ⟨b, k * 2, none⟩ = some (.int .i64 z.1) ∧ w'.cell? ⟨b, k * 2 + 1, none⟩ = some (.slice z.2.1 z.2.2.1 z.2.2.2)) := hs
  have HAD : Hid (0 < n → a = some ⟨b, 0, none⟩) := hid ha
  have hmk : ∀ w : World, (Instr.makeSlice 78 (.int .i64 (p : Int)) (.int .i64 (p : Int))).run Tryz.prog w = .ok (.slice (some ⟨w.heap.size, 0, none⟩) p p) (w.alloc (.cells (sawCells p []).toArray 4)) := by
    intro w
    obtain ⟨i, hi1, hz, hs', hb⟩ := info_parts boolinfo
    have h1 := run_make (P := Tryz.prog) w 78 4 i (.bool false) Tryz.underlying78 hi1 hz .i64 .i64 p p (by omega) (Int.le_refl _) (by rw [hb]; omega) (by omega)
    rw [h1, hs', Int.toNat_natCast, Nat.mul_one]
    have e1 : madeCells (Value.bool false).cells p = (sawCells p []).toArray := by
      unfold madeCells sawCells
      apply Array.ext'
      apply List.ext_getElem
      · simp
      · intro k h1 h2
        simp [Value.cells, Nat.mod_one]
    rw [e1]
  have q0 := h.cell 1
  simp only [List.getElem?_cons_zero, List.getElem?_cons_succ] at q0
  have HM0 := hid ((h.alloc (sawCells p []) 4) : Mem wb _ (pts w0.heap.size 4 (sawCells p []) * (pts gl 86 [.pointer (some ⟨g, 0, none⟩), .int .i64 (p : Int), er] * R)))
  have HLN : Hid ((zs.map fun z => (z.1, z.2.2.1)).length = n) := by show _ = _; rw [List.length_map, hn]
  have HIO0 : Hid (askedFrom p 0 [] (zs.map fun z => (z.1, z.2.2.1)) = askedFrom p 0 [] ((zs.map fun z => (z.1, z.2.2.1)).drop 0)) := by show _ = _; rw [List.drop_zero]
  clear h hs ha
  go_enter Tryz.func30, Tryz.ntmps30
  go_wp2_with fail
  clear hmk q0
  go_loopw [7, 8, 17] (fun _ _ kv wr => ∃ (k : Nat) (s : List Nat), k ≤ n ∧ kv = .int .i64 k ∧ askedFrom p 0 [] (zs.map fun z => (z.1, z.2.2.1)) = askedFrom p k s ((zs.map fun z => (z.1, z.2.2.1)).drop k) ∧ Mem wb wr (pts w0.heap.size 4 (sawCells p s) * (pts gl 86 [.pointer (some ⟨g, 0, none⟩), .int .i64 (p : Int), er] * R))) (fun _ _ kv _ => n - (intOf kv).toNat)
  case atStart => exact ⟨0, [], by omega, rfl, HIO0.out, HM0.out⟩
  case round =>
    obtain ⟨k, s, hk, rfl, hio, hm⟩ := hrel
    have HM1 := hid hm
    have HIO := hid hio
    clear HM0 HIO0 hm hio
    by_cases hlt : k < n
    · obtain rfl := HAD.out (by omega)
      obtain ⟨z, hz⟩ : ∃ z, zs[k]? = some z := ⟨zs[k]'(by omega), List.getElem?_eq_getElem _⟩
      obtain ⟨hp0, hp1⟩ := HS.out wr HM1.out.right.right k z hz
      have HDC : Hid ((zs.map fun z => (z.1, z.2.2.1)).drop k = (z.1, z.2.2.1) :: (zs.map fun z => (z.1, z.2.2.1)).drop (k + 1)) := by
        show _ = _
        obtain ⟨hlt2, hzk⟩ := List.getElem?_eq_some_iff.1 hz
        rw [drop_cons _ k (by rw [List.length_map]; exact hlt2), List.getElem_map, hzk]
      clear hz
      obtain ⟨nn, ba, l, bc⟩ := z
      simp only at hp0 hp1 HDC
      have kn : (k : Int) < (n : Int) := by omega
      have HM := hid ((HM1.out.alloc [.int .i64 nn, .slice ba l bc] 52) : Mem wb _ (pts wr.heap.size 52 [.int .i64 nn, .slice ba l bc] * (pts w0.heap.size 4 (sawCells p s) * (pts gl 86 [.pointer (some ⟨g, 0, none⟩), .int .i64 (p : Int), er] * R))))
      have HIO2 : Hid (askedFrom p 0 [] (zs.map fun z => (z.1, z.2.2.1)) = askedFrom p k s ((nn, l) :: (zs.map fun z => (z.1, z.2.2.1)).drop (k + 1))) := by show _ = _; rw [HIO.out, HDC.out]
      clear HIO HDC HM1
      by_cases hbad : nn < 0 ∨ (p : Int) ≤ nn
      · have HAS : Hid (askedFrom p 0 [] (zs.map fun z => (z.1, z.2.2.1)) = (k, 4)) := by
          show _ = _
          rw [HIO2.out]
          unfold askedFrom
          rw [if_pos hbad]
        clear HIO2
        by_cases hneg : nn < 0
        · clear hbad
          go_wp2_with fail
          refine region_mem (by kernel_rfl) (V := fun jv x => match jv with | 0 => x = (.pointer (some ⟨wr.heap.size, 0, none⟩) : Value) | 1 => x = (.int .i64 nn : Value) | 2 => x = (.bool true : Value) | 3 => x = (.bool true : Value) | 4 => x = undef | 5 => x = undef | 6 => x = undef | 7 => x = undef | 8 => x = undef | 9 => x = undef | 10 => x = undef | 11 => x = undef | 12 => x = (.bool true : Value) | 13 => x = (.bool true : Value) | _ => True) (A := (fun _ => pts wr.heap.size 52 [.int .i64 nn, .slice ba l bc] * (pts w0.heap.size 4 (sawCells p s) * (pts gl 86 [.pointer (some ⟨g, 0, none⟩), .int .i64 (p : Int), er] * R)))) (Bs := []) HM.out (fun _ _ _ => rfl) (show ([] : List Nat).Nodup by decide) (by kernel_rfl) (by kernel_rfl) ?_ ?_
          · refine ⟨?_, ?_, ?_, ?_, ?_, ?_, ?_, ?_, ?_, ?_, ?_, ?_, ?_, ?_, trivial⟩
            · refine Fine2.run trivial _ rfl (fun _ => rfl) rfl rfl (fun L a w R' hw hm hmk hf => ?_)
              have e8 : a.eval (.tmp 8) = (.pointer (some ⟨wr.heap.size, 0, none⟩) : Value) := (hf 8 (by decide +kernel)).old (by kernel_rfl)
              simp only [Act.eval, Array.getD_eq_getD_getElem?] at e8
              simp [execOp, resolve, invoke, builtin, go_sem, e8]
            · refine Fine2.run trivial _ rfl (fun _ => rfl) rfl rfl (fun L a w R' hw hm hmk hf => ?_)
              have e23 : a.eval (.tmp 23) = (.pointer (some ⟨wr.heap.size, 0, none⟩) : Value) := (hf 23 (by decide +kernel)).new 0 (by kernel_rfl) (by kernel_rfl)
              simp only [Act.eval, Array.getD_eq_getD_getElem?] at e23
              have hbx := hm.left
              have q0 := hbx.cell 0
              simp only [List.getElem?_cons_zero] at q0
              simp [execOp, resolve, invoke, builtin, go_sem, e23, q0]
            · refine Fine2.run trivial _ rfl (fun _ => rfl) rfl rfl (fun L a w R' hw hm hmk hf => ?_)
              have e24 : a.eval (.tmp 24) = (.int .i64 nn : Value) := (hf 24 (by decide +kernel)).new 1 (by kernel_rfl) (by kernel_rfl)
              simp only [Act.eval, Array.getD_eq_getD_getElem?] at e24
              simp [execOp, resolve, invoke, builtin, go_sem, e24, hneg]
            · refine Fine2.run trivial _ rfl (fun _ => rfl) rfl rfl (fun L a w R' hw hm hmk hf => ?_)
              have e25 : a.eval (.tmp 25) = (.bool true : Value) := (hf 25 (by decide +kernel)).new 2 (by kernel_rfl) (by kernel_rfl)
              simp only [Act.eval, Array.getD_eq_getD_getElem?] at e25
              simp [execOp, resolve, invoke, builtin, go_sem, e25]
            · exact .inr ⟨⟨_, _, _, rfl, rfl, by kernel_rfl, by kernel_rfl, fun _ h => h⟩, rfl, fun _ => rfl, rfl, fun _ => rfl⟩
            · exact .inr ⟨⟨_, _, _, rfl, rfl, by kernel_rfl, by kernel_rfl, fun _ h => h⟩, rfl, fun _ => rfl, rfl, fun _ => rfl⟩
            · exact .inr ⟨⟨_, _, _, rfl, rfl, by kernel_rfl, by kernel_rfl, fun _ h => h⟩, rfl, fun _ => rfl, rfl, fun _ => rfl⟩
            · exact .inr ⟨⟨_, _, _, rfl, rfl, by kernel_rfl, by kernel_rfl, fun _ h => h⟩, rfl, fun _ => rfl, rfl, fun _ => rfl⟩
            · exact .inr ⟨⟨_, _, _, rfl, rfl, by kernel_rfl, by kernel_rfl, fun _ h => h⟩, rfl, fun _ => rfl, rfl, fun _ => rfl⟩
            · exact .inr ⟨⟨_, _, _, rfl, rfl, by kernel_rfl, by kernel_rfl, fun _ h => h⟩, rfl, fun _ => rfl, rfl, fun _ => rfl⟩
            · exact .inr ⟨⟨_, _, _, rfl, rfl, by kernel_rfl, by kernel_rfl, fun _ h => h⟩, rfl, fun _ => rfl, rfl, fun _ => rfl⟩
            · exact .inr ⟨⟨_, _, _, rfl, rfl, by kernel_rfl, by kernel_rfl, fun _ h => h⟩, rfl, fun _ => rfl, rfl, fun _ => rfl⟩
            · refine Fine2.run trivial _ rfl (fun _ => rfl) rfl rfl (fun L a w R' hw hm hmk hf => ?_)
              have e26 : a.eval (.tmp 26) = (.bool true : Value) := (hf 26 (by decide +kernel)).new 3 (by kernel_rfl) (by kernel_rfl)
              have e34 : a.eval (.tmp 34) = undef := (hf 34 (by decide +kernel)).new 11 (by kernel_rfl) (by kernel_rfl)
              simp only [Act.eval, Array.getD_eq_getD_getElem?] at e26 e34
              simp [execOp, resolve, invoke, builtin, go_sem, e26, e34]
            · refine Fine2.run trivial _ rfl (fun _ => rfl) rfl rfl (fun L a w R' hw hm hmk hf => ?_)
              have e35 : a.eval (.tmp 35) = (.bool true : Value) := (hf 35 (by decide +kernel)).new 12 (by kernel_rfl) (by kernel_rfl)
              simp only [Act.eval, Array.getD_eq_getD_getElem?] at e35
              simp [execOp, resolve, invoke, builtin, go_sem, e35]
          · intro u w9 hu hm9
            have hb : u 22 = .bool true := hu 22 13 rfl
            have hm8 : Mem wb w9 (pts wr.heap.size 52 [.int .i64 nn, .slice ba l bc] * (pts w0.heap.size 4 (sawCells p s) * (pts gl 86 [.pointer (some ⟨g, 0, none⟩), .int .i64 (p : Int), er] * R))) := hm9.left
            have HM4 := hid (hm8.right.right)
            simp only [putAll]
            rw [hb]
            clear hm9 hm8 hu hb HM hp0 hp1
            go_simp
            go_wp2_with fail
            go_ret2
            rw [HAS.out]
            exact ⟨rfl, HM4.out⟩
        · have hbig : (p : Int) ≤ nn := by omega
          clear hbad
          go_wp2_with fail
          refine region_mem (by kernel_rfl) (V := fun jv x => match jv with | 0 => x = (.pointer (some ⟨wr.heap.size, 0, none⟩) : Value) | 1 => x = (.int .i64 nn : Value) | 2 => x = (.bool false : Value) | 3 => x = (.bool false : Value) | 4 => x = (.pointer (some ⟨wr.heap.size, 0, none⟩) : Value) | 5 => x = (.int .i64 nn : Value) | 6 => x = (.pointer (some ⟨gl, 0, none⟩) : Value) | 7 => x = (.pointer (some ⟨gl, 0, none⟩) : Value) | 8 => x = (.pointer (some ⟨gl, 0, none⟩) : Value) | 9 => x = (.pointer (some ⟨gl, 1, none⟩) : Value) | 10 => x = (.int .i64 (p : Int) : Value) | 11 => x = (.bool true : Value) | 12 => x = (.bool true : Value) | 13 => x = (.bool true : Value) | _ => True) (A := (fun _ => pts wr.heap.size 52 [.int .i64 nn, .slice ba l bc] * (pts w0.heap.size 4 (sawCells p s) * (pts gl 86 [.pointer (some ⟨g, 0, none⟩), .int .i64 (p : Int), er] * R)))) (Bs := []) HM.out (fun _ _ _ => rfl) (show ([] : List Nat).Nodup by decide) (by kernel_rfl) (by kernel_rfl) ?_ ?_
          · refine ⟨?_, ?_, ?_, ?_, ?_, ?_, ?_, ?_, ?_, ?_, ?_, ?_, ?_, ?_, trivial⟩
            · refine Fine2.run trivial _ rfl (fun _ => rfl) rfl rfl (fun L a w R' hw hm hmk hf => ?_)
              have e8 : a.eval (.tmp 8) = (.pointer (some ⟨wr.heap.size, 0, none⟩) : Value) := (hf 8 (by decide +kernel)).old (by kernel_rfl)
              simp only [Act.eval, Array.getD_eq_getD_getElem?] at e8
              simp [execOp, resolve, invoke, builtin, go_sem, e8]
            · refine Fine2.run trivial _ rfl (fun _ => rfl) rfl rfl (fun L a w R' hw hm hmk hf => ?_)
              have e23 : a.eval (.tmp 23) = (.pointer (some ⟨wr.heap.size, 0, none⟩) : Value) := (hf 23 (by decide +kernel)).new 0 (by kernel_rfl) (by kernel_rfl)
              simp only [Act.eval, Array.getD_eq_getD_getElem?] at e23
              have hbx := hm.left
              have q0 := hbx.cell 0
              simp only [List.getElem?_cons_zero] at q0
              simp [execOp, resolve, invoke, builtin, go_sem, e23, q0]
            · refine Fine2.run trivial _ rfl (fun _ => rfl) rfl rfl (fun L a w R' hw hm hmk hf => ?_)
              have e24 : a.eval (.tmp 24) = (.int .i64 nn : Value) := (hf 24 (by decide +kernel)).new 1 (by kernel_rfl) (by kernel_rfl)
              simp only [Act.eval, Array.getD_eq_getD_getElem?] at e24
              simp [execOp, resolve, invoke, builtin, go_sem, e24, hneg]
            · refine Fine2.run trivial _ rfl (fun _ => rfl) rfl rfl (fun L a w R' hw hm hmk hf => ?_)
              have e25 : a.eval (.tmp 25) = (.bool false : Value) := (hf 25 (by decide +kernel)).new 2 (by kernel_rfl) (by kernel_rfl)
              simp only [Act.eval, Array.getD_eq_getD_getElem?] at e25
              simp [execOp, resolve, invoke, builtin, go_sem, e25]
            · refine Fine2.run ⟨_, rfl, by kernel_rfl, by kernel_rfl, fun _ h => h⟩ _ rfl (fun _ => rfl) rfl rfl (fun L a w R' hw hm hmk hf => ?_)
              have e8 : a.eval (.tmp 8) = (.pointer (some ⟨wr.heap.size, 0, none⟩) : Value) := (hf 8 (by decide +kernel)).old (by kernel_rfl)
              simp only [Act.eval, Array.getD_eq_getD_getElem?] at e8
              simp [execOp, resolve, invoke, builtin, go_sem, e8]
            · refine Fine2.run ⟨_, rfl, by kernel_rfl, by kernel_rfl, fun _ h => h⟩ _ rfl (fun _ => rfl) rfl rfl (fun L a w R' hw hm hmk hf => ?_)
              have e27 : a.eval (.tmp 27) = (.pointer (some ⟨wr.heap.size, 0, none⟩) : Value) := (hf 27 (by decide +kernel)).new 4 (by kernel_rfl) (by kernel_rfl)
              simp only [Act.eval, Array.getD_eq_getD_getElem?] at e27
              have hbx := hm.left
              have q0 := hbx.cell 0
              simp only [List.getElem?_cons_zero] at q0
              simp [execOp, resolve, invoke, builtin, go_sem, e27, q0]
            · refine Fine2.run ⟨_, rfl, by kernel_rfl, by kernel_rfl, fun _ h => h⟩ _ rfl (fun _ => rfl) rfl rfl (fun L a w R' hw hm hmk hf => ?_)
              have e0 : a.eval (.tmp 0) = (.pointer (some ⟨gl, 0, none⟩) : Value) := (hf 0 (by decide +kernel)).old (by kernel_rfl)
              simp only [Act.eval, Array.getD_eq_getD_getElem?] at e0
              simp [execOp, resolve, invoke, builtin, go_sem, e0]
            · refine Fine2.run ⟨_, rfl, by kernel_rfl, by kernel_rfl, fun _ h => h⟩ _ rfl (fun _ => rfl) rfl rfl (fun L a w R' hw hm hmk hf => ?_)
              have e29 : a.eval (.tmp 29) = (.pointer (some ⟨gl, 0, none⟩) : Value) := (hf 29 (by decide +kernel)).new 6 (by kernel_rfl) (by kernel_rfl)
              simp only [Act.eval, Array.getD_eq_getD_getElem?] at e29
              simp [execOp, resolve, invoke, builtin, go_sem, e29]
            · refine Fine2.run ⟨_, rfl, by kernel_rfl, by kernel_rfl, fun _ h => h⟩ _ rfl (fun _ => rfl) rfl rfl (fun L a w R' hw hm hmk hf => ?_)
              have e30 : a.eval (.tmp 30) = (.pointer (some ⟨gl, 0, none⟩) : Value) := (hf 30 (by decide +kernel)).new 7 (by kernel_rfl) (by kernel_rfl)
              simp only [Act.eval, Array.getD_eq_getD_getElem?] at e30
              simp [execOp, resolve, invoke, builtin, go_sem, e30]
            · refine Fine2.run ⟨_, rfl, by kernel_rfl, by kernel_rfl, fun _ h => h⟩ _ rfl (fun _ => rfl) rfl rfl (fun L a w R' hw hm hmk hf => ?_)
              have e31 : a.eval (.tmp 31) = (.pointer (some ⟨gl, 0, none⟩) : Value) := (hf 31 (by decide +kernel)).new 8 (by kernel_rfl) (by kernel_rfl)
              simp only [Act.eval, Array.getD_eq_getD_getElem?] at e31
              simp [execOp, resolve, invoke, builtin, go_sem, e31]
            · refine Fine2.run ⟨_, rfl, by kernel_rfl, by kernel_rfl, fun _ h => h⟩ _ rfl (fun _ => rfl) rfl rfl (fun L a w R' hw hm hmk hf => ?_)
              have e32 : a.eval (.tmp 32) = (.pointer (some ⟨gl, 1, none⟩) : Value) := (hf 32 (by decide +kernel)).new 9 (by kernel_rfl) (by kernel_rfl)
              simp only [Act.eval, Array.getD_eq_getD_getElem?] at e32
              have hbx := hm.left.right.right
              have q0 := hbx.cell 1
              simp only [List.getElem?_cons_zero, List.getElem?_cons_succ] at q0
              simp [execOp, resolve, invoke, builtin, go_sem, e32, q0]
            · refine Fine2.run ⟨_, rfl, by kernel_rfl, by kernel_rfl, fun _ h => h⟩ _ rfl (fun _ => rfl) rfl rfl (fun L a w R' hw hm hmk hf => ?_)
              have e28 : a.eval (.tmp 28) = (.int .i64 nn : Value) := (hf 28 (by decide +kernel)).new 5 (by kernel_rfl) (by kernel_rfl)
              have e33 : a.eval (.tmp 33) = (.int .i64 (p : Int) : Value) := (hf 33 (by decide +kernel)).new 10 (by kernel_rfl) (by kernel_rfl)
              simp only [Act.eval, Array.getD_eq_getD_getElem?] at e28 e33
              simp [execOp, resolve, invoke, builtin, go_sem, e28, e33, hbig]
            · refine Fine2.run trivial _ rfl (fun _ => rfl) rfl rfl (fun L a w R' hw hm hmk hf => ?_)
              have e26 : a.eval (.tmp 26) = (.bool false : Value) := (hf 26 (by decide +kernel)).new 3 (by kernel_rfl) (by kernel_rfl)
              have e34 : a.eval (.tmp 34) = (.bool true : Value) := (hf 34 (by decide +kernel)).new 11 (by kernel_rfl) (by kernel_rfl)
              simp only [Act.eval, Array.getD_eq_getD_getElem?] at e26 e34
              simp [execOp, resolve, invoke, builtin, go_sem, e26, e34]
            · refine Fine2.run trivial _ rfl (fun _ => rfl) rfl rfl (fun L a w R' hw hm hmk hf => ?_)
              have e35 : a.eval (.tmp 35) = (.bool true : Value) := (hf 35 (by decide +kernel)).new 12 (by kernel_rfl) (by kernel_rfl)
              simp only [Act.eval, Array.getD_eq_getD_getElem?] at e35
              simp [execOp, resolve, invoke, builtin, go_sem, e35]
          · intro u w9 hu hm9
            have hb : u 22 = .bool true := hu 22 13 rfl
            have hm8 : Mem wb w9 (pts wr.heap.size 52 [.int .i64 nn, .slice ba l bc] * (pts w0.heap.size 4 (sawCells p s) * (pts gl 86 [.pointer (some ⟨g, 0, none⟩), .int .i64 (p : Int), er] * R))) := hm9.left
            have HM4 := hid (hm8.right.right)
            simp only [putAll]
            rw [hb]
            clear hm9 hm8 hu hb HM hp0 hp1
            go_simp
            go_wp2_with fail
            go_ret2
            rw [HAS.out]
            exact ⟨rfl, HM4.out⟩
      · have hneg : ¬ nn < 0 := by omega
        have hbig : ¬ (p : Int) ≤ nn := by omega
        go_wp2_with fail
        refine region_mem (by kernel_rfl) (V := fun jv x => match jv with | 0 => x = (.pointer (some ⟨wr.heap.size, 0, none⟩) : Value) | 1 => x = (.int .i64 nn : Value) | 2 => x = (.bool false : Value) | 3 => x = (.bool false : Value) | 4 => x = (.pointer (some ⟨wr.heap.size, 0, none⟩) : Value) | 5 => x = (.int .i64 nn : Value) | 6 => x = (.pointer (some ⟨gl, 0, none⟩) : Value) | 7 => x = (.pointer (some ⟨gl, 0, none⟩) : Value) | 8 => x = (.pointer (some ⟨gl, 0, none⟩) : Value) | 9 => x = (.pointer (some ⟨gl, 1, none⟩) : Value) | 10 => x = (.int .i64 (p : Int) : Value) | 11 => x = (.bool false : Value) | 12 => x = (.bool false : Value) | 13 => x = (.bool false : Value) | _ => True) (A := (fun _ => pts wr.heap.size 52 [.int .i64 nn, .slice ba l bc] * (pts w0.heap.size 4 (sawCells p s) * (pts gl 86 [.pointer (some ⟨g, 0, none⟩), .int .i64 (p : Int), er] * R)))) (Bs := []) HM.out (fun _ _ _ => rfl) (show ([] : List Nat).Nodup by decide) (by kernel_rfl) (by kernel_rfl) ?_ ?_
        · refine ⟨?_, ?_, ?_, ?_, ?_, ?_, ?_, ?_, ?_, ?_, ?_, ?_, ?_, ?_, trivial⟩
          · refine Fine2.run trivial _ rfl (fun _ => rfl) rfl rfl (fun L a w R' hw hm hmk hf => ?_)
            have e8 : a.eval (.tmp 8) = (.pointer (some ⟨wr.heap.size, 0, none⟩) : Value) := (hf 8 (by decide +kernel)).old (by kernel_rfl)
            simp only [Act.eval, Array.getD_eq_getD_getElem?] at e8
            simp [execOp, resolve, invoke, builtin, go_sem, e8]
          · refine Fine2.run trivial _ rfl (fun _ => rfl) rfl rfl (fun L a w R' hw hm hmk hf => ?_)
            have e23 : a.eval (.tmp 23) = (.pointer (some ⟨wr.heap.size, 0, none⟩) : Value) := (hf 23 (by decide +kernel)).new 0 (by kernel_rfl) (by kernel_rfl)
            simp only [Act.eval, Array.getD_eq_getD_getElem?] at e23
            have hbx := hm.left
            have q0 := hbx.cell 0
            simp only [List.getElem?_cons_zero] at q0
            simp [execOp, resolve, invoke, builtin, go_sem, e23, q0]
          · refine Fine2.run trivial _ rfl (fun _ => rfl) rfl rfl (fun L a w R' hw hm hmk hf => ?_)
            have e24 : a.eval (.tmp 24) = (.int .i64 nn : Value) := (hf 24 (by decide +kernel)).new 1 (by kernel_rfl) (by kernel_rfl)
            simp only [Act.eval, Array.getD_eq_getD_getElem?] at e24
            simp [execOp, resolve, invoke, builtin, go_sem, e24, hneg]
          · refine Fine2.run trivial _ rfl (fun _ => rfl) rfl rfl (fun L a w R' hw hm hmk hf => ?_)
            have e25 : a.eval (.tmp 25) = (.bool false : Value) := (hf 25 (by decide +kernel)).new 2 (by kernel_rfl) (by kernel_rfl)
            simp only [Act.eval, Array.getD_eq_getD_getElem?] at e25
            simp [execOp, resolve, invoke, builtin, go_sem, e25]
          · refine Fine2.run ⟨_, rfl, by kernel_rfl, by kernel_rfl, fun _ h => h⟩ _ rfl (fun _ => rfl) rfl rfl (fun L a w R' hw hm hmk hf => ?_)
            have e8 : a.eval (.tmp 8) = (.pointer (some ⟨wr.heap.size, 0, none⟩) : Value) := (hf 8 (by decide +kernel)).old (by kernel_rfl)
            simp only [Act.eval, Array.getD_eq_getD_getElem?] at e8
            simp [execOp, resolve, invoke, builtin, go_sem, e8]
          · refine Fine2.run ⟨_, rfl, by kernel_rfl, by kernel_rfl, fun _ h => h⟩ _ rfl (fun _ => rfl) rfl rfl (fun L a w R' hw hm hmk hf => ?_)
            have e27 : a.eval (.tmp 27) = (.pointer (some ⟨wr.heap.size, 0, none⟩) : Value) := (hf 27 (by decide +kernel)).new 4 (by kernel_rfl) (by kernel_rfl)
            simp only [Act.eval, Array.getD_eq_getD_getElem?] at e27
            have hbx := hm.left
            have q0 := hbx.cell 0
            simp only [List.getElem?_cons_zero] at q0
            simp [execOp, resolve, invoke, builtin, go_sem, e27, q0]
          · refine Fine2.run ⟨_, rfl, by kernel_rfl, by kernel_rfl, fun _ h => h⟩ _ rfl (fun _ => rfl) rfl rfl (fun L a w R' hw hm hmk hf => ?_)
            have e0 : a.eval (.tmp 0) = (.pointer (some ⟨gl, 0, none⟩) : Value) := (hf 0 (by decide +kernel)).old (by kernel_rfl)
            simp only [Act.eval, Array.getD_eq_getD_getElem?] at e0
            simp [execOp, resolve, invoke, builtin, go_sem, e0]
          · refine Fine2.run ⟨_, rfl, by kernel_rfl, by kernel_rfl, fun _ h => h⟩ _ rfl (fun _ => rfl) rfl rfl (fun L a w R' hw hm hmk hf => ?_)
            have e29 : a.eval (.tmp 29) = (.pointer (some ⟨gl, 0, none⟩) : Value) := (hf 29 (by decide +kernel)).new 6 (by kernel_rfl) (by kernel_rfl)
            simp only [Act.eval, Array.getD_eq_getD_getElem?] at e29
            simp [execOp, resolve, invoke, builtin, go_sem, e29]
          · refine Fine2.run ⟨_, rfl, by kernel_rfl, by kernel_rfl, fun _ h => h⟩ _ rfl (fun _ => rfl) rfl rfl (fun L a w R' hw hm hmk hf => ?_)
            have e30 : a.eval (.tmp 30) = (.pointer (some ⟨gl, 0, none⟩) : Value) := (hf 30 (by decide +kernel)).new 7 (by kernel_rfl) (by kernel_rfl)
            simp only [Act.eval, Array.getD_eq_getD_getElem?] at e30
            simp [execOp, resolve, invoke, builtin, go_sem, e30]
          · refine Fine2.run ⟨_, rfl, by kernel_rfl, by kernel_rfl, fun _ h => h⟩ _ rfl (fun _ => rfl) rfl rfl (fun L a w R' hw hm hmk hf => ?_)
            have e31 : a.eval (.tmp 31) = (.pointer (some ⟨gl, 0, none⟩) : Value) := (hf 31 (by decide +kernel)).new 8 (by kernel_rfl) (by kernel_rfl)
            simp only [Act.eval, Array.getD_eq_getD_getElem?] at e31
            simp [execOp, resolve, invoke, builtin, go_sem, e31]
          · refine Fine2.run ⟨_, rfl, by kernel_rfl, by kernel_rfl, fun _ h => h⟩ _ rfl (fun _ => rfl) rfl rfl (fun L a w R' hw hm hmk hf => ?_)
            have e32 : a.eval (.tmp 32) = (.pointer (some ⟨gl, 1, none⟩) : Value) := (hf 32 (by decide +kernel)).new 9 (by kernel_rfl) (by kernel_rfl)
            simp only [Act.eval, Array.getD_eq_getD_getElem?] at e32
            have hbx := hm.left.right.right
            have q0 := hbx.cell 1
            simp only [List.getElem?_cons_zero, List.getElem?_cons_succ] at q0
            simp [execOp, resolve, invoke, builtin, go_sem, e32, q0]
          · refine Fine2.run ⟨_, rfl, by kernel_rfl, by kernel_rfl, fun _ h => h⟩ _ rfl (fun _ => rfl) rfl rfl (fun L a w R' hw hm hmk hf => ?_)
            have e28 : a.eval (.tmp 28) = (.int .i64 nn : Value) := (hf 28 (by decide +kernel)).new 5 (by kernel_rfl) (by kernel_rfl)
            have e33 : a.eval (.tmp 33) = (.int .i64 (p : Int) : Value) := (hf 33 (by decide +kernel)).new 10 (by kernel_rfl) (by kernel_rfl)
            simp only [Act.eval, Array.getD_eq_getD_getElem?] at e28 e33
            simp [execOp, resolve, invoke, builtin, go_sem, e28, e33, hbig]
          · refine Fine2.run trivial _ rfl (fun _ => rfl) rfl rfl (fun L a w R' hw hm hmk hf => ?_)
            have e26 : a.eval (.tmp 26) = (.bool false : Value) := (hf 26 (by decide +kernel)).new 3 (by kernel_rfl) (by kernel_rfl)
            have e34 : a.eval (.tmp 34) = (.bool false : Value) := (hf 34 (by decide +kernel)).new 11 (by kernel_rfl) (by kernel_rfl)
            simp only [Act.eval, Array.getD_eq_getD_getElem?] at e26 e34
            simp [execOp, resolve, invoke, builtin, go_sem, e26, e34]
          · refine Fine2.run trivial _ rfl (fun _ => rfl) rfl rfl (fun L a w R' hw hm hmk hf => ?_)
            have e35 : a.eval (.tmp 35) = (.bool false : Value) := (hf 35 (by decide +kernel)).new 12 (by kernel_rfl) (by kernel_rfl)
            simp only [Act.eval, Array.getD_eq_getD_getElem?] at e35
            simp [execOp, resolve, invoke, builtin, go_sem, e35]
        · intro u w9 hu hm9
          have hb : u 22 = .bool false := hu 22 13 rfl
          have hm8 : Mem wb w9 (pts wr.heap.size 52 [.int .i64 nn, .slice ba l bc] * (pts w0.heap.size 4 (sawCells p s) * (pts gl 86 [.pointer (some ⟨g, 0, none⟩), .int .i64 (p : Int), er] * R))) := hm9.left
          have HM4 := hid (hm8.right.right)
          have HM5 := hid hm8
          have r0 := hm8.cell 0
          have r1 := hm8.cell 1
          simp only [List.getElem?_cons_zero, List.getElem?_cons_succ] at r0 r1
          have hmn : ∃ m : Nat, nn = (m : Int) := ⟨nn.toNat, by omega⟩
          obtain ⟨m, rfl⟩ := hmn
          have hmp : m < p := by omega
          have s0 := hm8.right.cell m
          have sf := hm8.right.frozen m
          rw [sawCells_at p s m hmp] at s0
          simp only [putAll]
          rw [hb]
          clear hm9 hm8 hu hb HM hp0 hp1 hneg
          by_cases hl : l = 1024
          · subst hl
            by_cases hse : m ∈ s
            · have HAS : Hid (askedFrom p 0 [] (zs.map fun z => (z.1, z.2.2.1)) = (k, 91)) := by
                show _ = _
                rw [HIO2.out]
                unfold askedFrom
                rw [if_neg (by omega), if_neg (by simp), if_pos (by simpa using hse)]
              have hd : decide (m ∈ s) = true := by simpa using hse
              rw [hd] at s0
              clear HIO2 hse hd hbad
              go_simp
              go_wp2_with fail
              go_ret2
              rw [HAS.out]
              exact ⟨rfl, HM4.out⟩
            · have HNX : Hid (askedFrom p 0 [] (zs.map fun z => (z.1, z.2.2.1)) = askedFrom p (k + 1) (m :: s) ((zs.map fun z => (z.1, z.2.2.1)).drop (k + 1))) := by
                show _ = _
                rw [HIO2.out]
                conv => lhs; unfold askedFrom
                rw [if_neg (by omega), if_neg (by simp), if_neg (by simpa using hse)]
                simp
              have hd : decide (m ∈ s) = false := by simpa using hse
              rw [hd] at s0
              have hm6 := HM5.out.right.setCell m (.bool true)
              rw [sawCells_set] at hm6
              have HM6 := hid hm6
              clear HIO2 hse hd hbad HM4 HM5 hm6
              go_simp
              go_wp2_with fail
              go_roundw
              case rel => exact ⟨k + 1, m :: s, by omega, by go_num, HNX.out, HM6.out⟩
              case measure => simp [intOf] <;> omega
          · have HAS : Hid (askedFrom p 0 [] (zs.map fun z => (z.1, z.2.2.1)) = (k, 82)) := by
              show _ = _
              rw [HIO2.out]
              unfold askedFrom
              rw [if_neg (by omega), if_pos hl]
            have hli : ¬ (l : Int) = 1024 := by omega
            have hlb : ((l : Int) != 1024) = true := by simpa using hli
            clear HIO2 hl hbad
            go_simp
            go_wp2_with fail
            go_ret2
            rw [HAS.out]
            exact ⟨rfl, HM4.out⟩
    · obtain rfl : k = n := by omega
      have HAS : Hid (askedFrom p 0 [] (zs.map fun z => (z.1, z.2.2.1)) = (0, 0)) := by
        show _ = _
        rw [HIO.out, List.drop_of_length_le (by rw [HLN.out]; exact Nat.le_refl _)]
        rfl
      have HM4 := hid HM1.out.right
      clear HIO HM1
      go_wp2_with fail
      go_ret2
      rw [HAS.out]
      exact ⟨rfl, HM4.out⟩
end Go.Proofs.YtpaebopmppbjbaaGreatDoor

/- The walks of wal's Clone of pages, ends, Commit's closures. -/
set_option linter.unusedVariables false
set_option linter.unusedSimpArgs false
namespace Go.Le
open Go Go.RowKit
/-- pages in memory may be read: numbers and slices -/
def Pgs (w : World) (b : Nat) (zs : List Pz) : Prop := ∀ k z, zs[k]? = some z → w.cell? ⟨b, k * 2, none⟩ = some (.int .i64 (z.1.1 : Int)) ∧ w.cell? ⟨b, k * 2 + 1, none⟩ = some (.slice z.2.1 z.1.2.length z.2.2)
theorem pgCells_at (zs : List Pz) (k : Nat) (z : Pz) (hz : zs[k]? = some z) : (pzCells zs)[k * 2]? = some (.int .i64 (z.1.1 : Int)) ∧ (pzCells zs)[k * 2 + 1]? = some (.slice z.2.1 z.1.2.length z.2.2) := flat2 _ _ zs k z hz
theorem pgCells_length (zs : List Pz) : (pzCells zs).length = zs.length * 2 := flat2_length _ _ zs
theorem Pgs.news {w : World} {b : Nat} {zs : List Pz} (h : Pgs w b zs) : ∀ p : Addr, some (⟨b, 0, none⟩ : Addr) = some p → ∀ j u, (pzCells zs)[j]? = some u → w.cell? (p.add j) = some u := by
  intro p hp j u hu
  cases hp
  have hj : j < zs.length * 2 := by rw [← pgCells_length]; exact (List.getElem?_eq_some_iff.1 hu).1
  rw [Addr.add_lit, Nat.zero_add]
  obtain ⟨z, hz⟩ : ∃ z, zs[j / 2]? = some z := ⟨zs[j / 2]'(by omega), List.getElem?_eq_getElem _⟩
  obtain ⟨h1, h2⟩ := h _ _ hz
  obtain ⟨h3, h4⟩ := pgCells_at _ _ _ hz
  rcases Nat.mod_two_eq_zero_or_one j with hm | hm
  · have e : j / 2 * 2 = j := by omega
    rw [e] at h1 h3
    rw [h3] at hu
    rw [h1, hu]
  · have e : j / 2 * 2 + 1 = j := by omega
    rw [e] at h2 h4
    rw [h4] at hu
    rw [h2, hu]
/-- a row of pages may be read -/
theorem Mem.pgs {wb w : World} {R : HP} {e : TypeId} {b n c : Nat} {zs : List Pz} (h : Mem wb w (row e 2 (some ⟨b, 0, none⟩) n c (pzCells zs) * R)) : Pgs w b zs := by
  intro k z hz
  obtain ⟨h3, h4⟩ := pgCells_at _ _ _ hz
  have h1 := (h.row_cell _ rfl _ _ h3).1
  have h2 := (h.row_cell _ rfl _ _ h4).1
  rw [Addr.add_lit, Nat.zero_add] at h1 h2
  exact ⟨h1, h2⟩
end Go.Le
namespace Go.Proofs.YtpaebopmppbjbaaGreatDoor
open Go Go.RowKit Go.Le
theorem pwInfo : (Tryz.prog.info? 52).map (fun i => (i.zero, i.size, i.bytes)) = some (some (.agg #[.int .i64 0, .slice none 0 0]), 2, 32) := by kernel_rfl

set_option maxRecDepth 20000 in
set_option maxHeartbeats 2000000 in
theorem PwClone_any (wb w : World) (R : HP) (h : Mem wb w R) (b n c : Nat) (zs : List Pz) (hn : zs.length = n) (hn2 : n ≤ 1000) (h0 : 0 < n) (hs : Pgs w b zs) :
    Calls Tryz.prog 31 #[.slice (some ⟨b, 0, none⟩) n c] w fun e w' => ∃ b2 c2, e = .returned (.slice (some ⟨b2, 0, none⟩) n c2) ∧ Mem wb w' (row 52 2 (some ⟨b2, 0, none⟩) n c2 (pzCells zs) * R) := by
  have hnq : ∀ w : World, (binOp .eql 36 (.slice (some ⟨b, 0, none⟩) n c) (.slice none 0 0)).run Tryz.prog w = .ok (.bool false) w := fun w => Lib.run_eql_slice_nil (P := Tryz.prog) w 36 52 (some ⟨b, 0, none⟩) n c 0 0 Tryz.underlying36
  obtain ⟨pi, hi, hzz, hsz, hby⟩ := info_parts pwInfo
  have hx : Mem wb ((w.alloc (.cells #[] 52))) (row 52 2 (some ⟨w.heap.size, 0, none⟩) 0 0 [] * R) := Mem.of_row (rest := []) rfl (by rfl) (Nat.le_refl _) (by omega) (by simp) (h.alloc [] 52)
  have hs2 : Pgs (w.alloc (.cells #[] 52)) b zs := fun k z hz => by
    obtain ⟨h1, h2⟩ := hs k z hz
    have f := ((Fr.refl w.heap.size [] w).alloc (Nat.le_refl _) (.cells #[] 52))
    exact ⟨f.cell_ext h1, f.cell_ext h2⟩
  have hnews := hs2.news
  have hl := pgCells_length zs
  have h1c : ∀ u ∈ pzCells zs, u.oneCell' = true := by
    intro u hu
    unfold pzCells at hu
    obtain ⟨z, _, hz⟩ := List.mem_flatMap.1 hu
    simp only [List.mem_cons, List.not_mem_nil, or_false] at hz
    rcases hz with rfl | rfl <;> rfl
  have HN := hid hnews
  have HX := hid hx
  have H1 := hid h1c
  have HL := hid hl
  have HH := hid h
  clear h hs hs2 hnews hx h1c hl
  go_enter Tryz.func31, Tryz.ntmps31
  go_wp2_with ((with_reducible show wpList _ _ _ (Oper.mk (some 7) _ _ _ _ _ :: _) _ _); refine wpList_append (by rfl) (.tmp 5) (.tmp 6) 36 (by rfl) Tryz.underlying36 hi hzz hsz hby rfl (by omega) (by rfl) (by rfl) HX.out rfl (by rw [HL.out, hn]) HN.out (fun h => by cases h) H1.out (by omega) (by omega) ?_; intro a' c' w2 hm2 hnn _; clear hi hzz hsz hby)
  have hm3 := hm2.duo_row
  rw [Nat.zero_add, List.nil_append] at hm3
  obtain ⟨g2, rest, rfl, r1, r2, r3, r4, hm4⟩ := hm3.row_at (by omega)
  have HM := hid hm3
  clear hm2 hm3 hm4 hnn r1 r4
  go_wp2_with fail
  go_ret
  exact ⟨g2, c', rfl, HM.out⟩

/-- the log's error, ended -/
theorem ends_any (wb w : World) (R : HP) (g p gl : Nat) (er : Value) (h : Mem wb w (logB g p er gl * R)) (s : ByteArray) (c : Int) :
    Calls Tryz.prog 37 #[.pointer (some ⟨gl, 0, none⟩), .string s, .int .i64 c] w fun e w' => ∃ v, e = .returned v ∧ Mem wb w' (faultB s 0 c v * (logB g p v gl * R)) := by
  have HFA := hid (fault_any wb w _ h s 0 c)
  clear h
  go_enter Tryz.func37, Tryz.ntmps37
  go_wp2_with fail
  refine HFA.out.mono ?_
  rintro e w3 ⟨gf, rfl, hm3⟩
  dsimp only
  have hm4 := hm3.p1
  unfold logB at hm4
  have q2 := hm4.cell 2
  have f2 := hm4.frozen 2
  simp only [List.getElem?_cons_zero, List.getElem?_cons_succ] at q2
  have hm5 := hm4.setCell 2 (.iface 53 (.pointer (some ⟨gf, 0, none⟩)))
  have HM := hid hm5
  clear hm3 hm4 hm5
  go_wp2_with fail
  go_ret
  refine ⟨_, rfl, Mem.faultB.2 ⟨gf, rfl, ?_⟩⟩
  unfold logB
  exact HM.out.p1
end Go.Proofs.YtpaebopmppbjbaaGreatDoor

/- The walks of wal's Commit. -/
set_option linter.unusedVariables false
set_option linter.unusedSimpArgs false
namespace Go.Proofs.YtpaebopmppbjbaaGreatDoor
open Go Go.RowKit Go.Le

set_option maxRecDepth 20000 in
set_option maxHeartbeats 4000000 in
theorem Commit2_any (wb w0 : World) (R : HP) (g gl bl bs p n b c : Nat) (er : Value) (zs : List Pz) (D : Dev) (h : Mem wb w0 (devAt T8 g D * (logB g p er gl * (pts bl 41 [.pointer (some ⟨gl, 0, none⟩)] * (pts bs 36 [.slice (some ⟨b, 0, none⟩) n c] * R))))) (hpl : D.pend.length ≤ 800000000) (hp : p ≤ 250) (hn : zs.length = n) (hn2 : n ≤ 250)
    (hz : ∀ z ∈ zs, z.1.1 < p ∧ z.1.2.length = 1024) (hs : ∀ w', Mem wb w' R → Pgs w' b zs ∧ ∀ z ∈ zs, Sl w' z.2.1 1024 z.2.2 (byts z.1.2)) :
    Calls Tryz.prog 35 #[.pointer (some ⟨bl, 0, none⟩), .pointer (some ⟨bs, 0, none⟩)] w0 (IoSays wb g (logB g p er gl * (pts bl 41 [.pointer (some ⟨gl, 0, none⟩)] * (pts bs 36 [.slice (some ⟨b, 0, none⟩) n c] * R))) (ioCommit p (zs.map (·.1)) D) unitB) := by
  have HM := hid h
  have HC : Hid (∀ w R', Mem wb w (devAt T8 g D * R') → (∀ w', Mem wb w' R' → Mem wb w' R) → Calls Tryz.prog 36 #[(.agg #[.pointer (some ⟨g, 0, none⟩), .int .i64 (p : Int)]), (.slice (some ⟨b, 0, none⟩) n c)] w (IoSays wb g R' (ioCommit p (zs.map (·.1)) D) unitB)) := by
    show ∀ w R', _
    intro w R' h1 h2
    refine commit_any wb w R' g p n b c zs D h1 hpl hp hn hn2 hz (fun w' h' k z hzk => ?_)
    obtain ⟨h3, h4⟩ := hs w' (h2 w' h')
    obtain ⟨h5, h6⟩ := h3 k z hzk
    have hzm := List.mem_of_getElem? hzk
    rw [(hz z hzm).2] at h6
    exact ⟨h5, h6, h4 z hzm⟩
  obtain ⟨rb, HRB⟩ : ∃ r, Hid (ioCommit p (zs.map (·.1)) D = r) := ⟨_, hid rfl⟩
  rw [HRB.out] at HC
  clear h hs hz
  go_enter Tryz.func35, Tryz.ntmps35
  go_wp2_with fail
  refine region_mem (by kernel_rfl) (V := fun jv x => match jv with | 0 => x = (.pointer (some ⟨gl, 0, none⟩) : Value) | 1 => x = (.pointer (some ⟨gl, 0, none⟩) : Value) | 2 => x = (.pointer (some ⟨gl, 0, none⟩) : Value) | 3 => x = (.agg #[.pointer (some ⟨g, 0, none⟩), .int .i64 (p : Int)] : Value) | 4 => x = (.slice (some ⟨b, 0, none⟩) n c : Value) | 5 => ∃ D2, x = (.tuple #[] : Value) ∧ rb = (Except.ok (), D2) | _ => True) (A := (fun L => (if L 5 then devAt T8 g rb.2 else devAt T8 g D) * (logB g p er gl * (pts bl 41 [.pointer (some ⟨gl, 0, none⟩)] * (pts bs 36 [.slice (some ⟨b, 0, none⟩) n c] * R))))) (Bs := []) HM.out (fun L L' h => by show (if L 5 then _ else _) * _ = (if L' 5 then _ else _) * _; rw [h 5 (by decide)]) (show ([] : List Nat).Nodup by decide) (by kernel_rfl) (by kernel_rfl) ?_ ?_
  · refine ⟨?_, ?_, ?_, ?_, ?_, ?_, trivial⟩
    · refine Fine2.run trivial _ rfl (fun _ => rfl) rfl rfl (fun L a w R' hw hm hmk hf => ?_)
      have e0 : a.eval (.tmp 0) = (.pointer (some ⟨bl, 0, none⟩) : Value) := (hf 0 (by decide +kernel)).old (by kernel_rfl)
      simp only [Act.eval, Array.getD_eq_getD_getElem?] at e0
      have hbx := hm.left.right.right
      have q0 := hbx.cell 0
      simp only [List.getElem?_cons_zero, List.getElem?_cons_succ] at q0
      simp [execOp, resolve, invoke, builtin, go_sem, e0, q0]
    · refine Fine2.run trivial _ rfl (fun _ => rfl) rfl rfl (fun L a w R' hw hm hmk hf => ?_)
      have e2 : a.eval (.tmp 2) = (.pointer (some ⟨gl, 0, none⟩) : Value) := (hf 2 (by decide +kernel)).new 0 (by kernel_rfl) (by kernel_rfl)
      simp only [Act.eval, Array.getD_eq_getD_getElem?] at e2
      simp [execOp, resolve, invoke, builtin, go_sem, e2]
    · refine Fine2.run trivial _ rfl (fun _ => rfl) rfl rfl (fun L a w R' hw hm hmk hf => ?_)
      have e3 : a.eval (.tmp 3) = (.pointer (some ⟨gl, 0, none⟩) : Value) := (hf 3 (by decide +kernel)).new 1 (by kernel_rfl) (by kernel_rfl)
      simp only [Act.eval, Array.getD_eq_getD_getElem?] at e3
      simp [execOp, resolve, invoke, builtin, go_sem, e3]
    · refine Fine2.run trivial _ rfl (fun _ => rfl) rfl rfl (fun L a w R' hw hm hmk hf => ?_)
      have e4 : a.eval (.tmp 4) = (.pointer (some ⟨gl, 0, none⟩) : Value) := (hf 4 (by decide +kernel)).new 2 (by kernel_rfl) (by kernel_rfl)
      simp only [Act.eval, Array.getD_eq_getD_getElem?] at e4
      have hbx := hm.left.right
      unfold logB at hbx
      have q0 := hbx.cell 0
      have q1 := hbx.cell 1
      simp only [List.getElem?_cons_zero, List.getElem?_cons_succ] at q0 q1
      simp [execOp, resolve, invoke, builtin, go_sem, e4, q0, q1]
    · refine Fine2.run trivial _ rfl (fun _ => rfl) rfl rfl (fun L a w R' hw hm hmk hf => ?_)
      have e1 : a.eval (.tmp 1) = (.pointer (some ⟨bs, 0, none⟩) : Value) := (hf 1 (by decide +kernel)).old (by kernel_rfl)
      simp only [Act.eval, Array.getD_eq_getD_getElem?] at e1
      have hbx := hm.left.right.right.right
      have q0 := hbx.cell 0
      simp only [List.getElem?_cons_zero, List.getElem?_cons_succ] at q0
      simp [execOp, resolve, invoke, builtin, go_sem, e1, q0]
    · refine Fine2.callP trivial rfl 36 #[(.agg #[.pointer (some ⟨g, 0, none⟩), .int .i64 (p : Int)]), (.slice (some ⟨b, 0, none⟩) n c)] (fun a w hf => ?_) (fun L a w R' hL hw hm hmk hf hdf hcl => ?_)
      · have e5 : a.eval (.tmp 5) = (.agg #[.pointer (some ⟨g, 0, none⟩), .int .i64 (p : Int)] : Value) := (hf 5 (by decide +kernel)).new 3 (by kernel_rfl) (by kernel_rfl)
        have e6 : a.eval (.tmp 6) = (.slice (some ⟨b, 0, none⟩) n c : Value) := (hf 6 (by decide +kernel)).new 4 (by kernel_rfl) (by kernel_rfl)
        simp only [Act.eval, Array.getD_eq_getD_getElem?] at e5 e6
        simp [execOp, resolve, invoke, go_sem, e5, e6]
      · have hm : Mem wb w ((if L 5 then devAt T8 g rb.2 else devAt T8 g D) * (logB g p er gl * (pts bl 41 [.pointer (some ⟨gl, 0, none⟩)] * (pts bs 36 [.slice (some ⟨b, 0, none⟩) n c] * R))) * R') := hm
        rw [hL] at hm
        have hm : Mem wb w (devAt T8 g D * (logB g p er gl * (pts bl 41 [.pointer (some ⟨gl, 0, none⟩)] * (pts bs 36 [.slice (some ⟨b, 0, none⟩) n c] * R))) * R') := hm
        refine (HC.out w (logB g p er gl * (pts bl 41 [.pointer (some ⟨gl, 0, none⟩)] * (pts bs 36 [.slice (some ⟨b, 0, none⟩) n c] * R)) * R') (hm.eq (by ac_rfl)) (fun w' h' => (h'.eq (by ac_rfl : _ = (logB g p er gl * (pts bl 41 [.pointer (some ⟨gl, 0, none⟩)] * (pts bs 36 [.slice (some ⟨b, 0, none⟩) n c] * R'))) * R)).right)).mono ?_
        intro e w' hs'
        rcases hrb : rb with ⟨c1 | u1, D2⟩
        · rw [hrb] at hs'
          obtain ⟨rfl, hc, hm2⟩ := hs'.error rfl
          exact .inr ⟨_, rfl, hdf, IoSays.mkError (HRB.out.trans hrb) hc (hm2.eq (by ac_rfl) : Mem wb w' (R' * (devAt T8 g D2 * (logB g p er gl * (pts bl 41 [.pointer (some ⟨gl, 0, none⟩)] * (pts bs 36 [.slice (some ⟨b, 0, none⟩) n c] * R)))))).right⟩
        · rw [hrb] at hs'
          obtain ⟨rfl, hm2⟩ := hs'.unit rfl
          refine .inl ⟨_, rfl, ⟨D2, rfl, rfl⟩, ?_⟩
          show Mem wb w' ((if doneSet L 5 5 then devAt T8 g (Except.ok (), D2).2 else devAt T8 g D) * (logB g p er gl * (pts bl 41 [.pointer (some ⟨gl, 0, none⟩)] * (pts bs 36 [.slice (some ⟨b, 0, none⟩) n c] * R))) * (emp * R'))
          rw [show doneSet L 5 5 = true from rfl, emp_sep]
          exact hm2.eq (by show _ = devAt T8 g D2 * (logB g p er gl * (pts bl 41 [.pointer (some ⟨gl, 0, none⟩)] * (pts bs 36 [.slice (some ⟨b, 0, none⟩) n c] * R))) * R'; ac_rfl)
  · intro u w9 hu hm9
    obtain ⟨D2, hu7, hrb⟩ := hu 7 5 rfl
    have hm8 := hm9.left
    rw [hrb] at hm8
    have HM8 : Hid (Mem wb w9 (devAt T8 g D2 * (logB g p er gl * (pts bl 41 [.pointer (some ⟨gl, 0, none⟩)] * (pts bs 36 [.slice (some ⟨b, 0, none⟩) n c] * R))))) := hm8
    have HRC := hid (HRB.out.trans hrb)
    simp only [putAll]
    clear hm9 hm8 hu hrb HRB HC HM
    go_simp
    go_wp2_with fail
    go_end0
    exact IoSays.mkUnit HRC.out HM8.out

theorem enters53 (args : Array Value) (w : World) : (callFunc 35 args).run Tryz.prog w = .ok (.enter 35 args) w :=
  enters_body Tryz.func35 (by kernel_rfl) rfl args w
/-- what Commit answers, where the list is in order -/
def CommitSays (wb : World) (g p gl : Nat) (R : HP) (res : Except Int Unit × Dev) (e : Ending) (w' : World) : Prop :=
  match res with
  | (.ok _, D') => e = .returned .nilIface ∧ Mem wb w' (logB g p .nilIface gl * (devAt T8 g D' * R))
  | (.error c, D') => ∃ v, e = .returned v ∧ c ≠ 0 ∧ Mem wb w' (faultB ⟨#[67, 111, 109, 109, 105, 116]⟩ 0 c v * (logB g p v gl * (devAt T8 g D' * R)))
def commitB (g p : Nat) (L : List (Nat × List UInt8)) (D : Dev) (X : HP) (c : Int) : HP := ex fun D' : Dev => pur (ioCommit p L D = ((if c = 0 then .ok () else .error c), D')) * (devAt T8 g D' * X)

set_option maxRecDepth 20000 in
set_option maxHeartbeats 8000000 in
theorem Commit_any (wb w0 : World) (R : HP) (g gl p n b c : Nat) (zs zs' : List Pz) (D : Dev) (h : Mem wb w0 (logB g p .nilIface gl * (devAt T8 g D * R))) (hpl : D.pend.length ≤ 800000000) (hp : p ≤ 250) (hn : zs.length = n) (hn2 : n ≤ 250) (hn0 : 0 < n)
    (hask : askedFrom p 0 [] (zs.map fun z => ((z.1.1 : Int), z.1.2.length)) = (0, 0)) (hz : ∀ z ∈ zs, z.1.1 < p ∧ z.1.2.length = 1024) (hs : ∀ w', Mem wb w' R → Pgs w' b zs ∧ ∀ z ∈ zs, Sl w' z.2.1 1024 z.2.2 (byts z.1.2)) (hn' : zs'.length = n) (hsub : ∀ z ∈ zs', z ∈ zs)
    (hsort : ∀ w R' b2 c2, Mem wb w (row 52 2 (some ⟨b2, 0, none⟩) n c2 (pzCells zs) * R') → Calls Tryz.prog 32 #[.slice (some ⟨b2, 0, none⟩) n c2, .func (.func 33) #[] #[]] w fun e w' => e = .returned (.tuple #[]) ∧ Mem wb w' (row 52 2 (some ⟨b2, 0, none⟩) n c2 (pzCells zs') * R')) :
    Calls Tryz.prog 10 #[.pointer (some ⟨gl, 0, none⟩), (.slice (some ⟨b, 0, none⟩) n c)] w0 (CommitSays wb g p gl R (ioCommit p (zs'.map (·.1)) D)) := by
  have hmf : ∀ (fn : Fn) (first cap : Array Value) (w : World), (Instr.makeFunc fn first cap).run Tryz.prog w = .ok (.func fn first cap) w := fun _ _ _ _ => rfl
  have h1 := h.alloc [.pointer (some ⟨gl, 0, none⟩)] 41
  have hm0 := h1.eq (by unfold logB; ac_rfl : _ = pts gl 86 [.pointer (some ⟨g, 0, none⟩), .int .i64 (p : Int), .nilIface] * (pts w0.heap.size 41 [.pointer (some ⟨gl, 0, none⟩)] * (devAt T8 g D * R)))
  have q2 := hm0.cell 2
  have c0 := hm0.right.cell 0
  simp only [List.getElem?_cons_zero, List.getElem?_cons_succ] at q2 c0
  have HS : Hid (∀ w', Mem wb w' R → Pgs w' b zs ∧ ∀ z ∈ zs, Sl w' z.2.1 1024 z.2.2 (byts z.1.2)) := hs
  have HAS := hid (wasked_any wb _ _ g gl p n b c (some ⟨b, 0, none⟩) .nilIface (zs.map fun z => ((z.1.1 : Int), z.2.1, z.1.2.length, z.2.2)) hm0 hp (by rw [List.length_map, hn]) (by omega) (fun _ => rfl) (fun w' h' k z hzk => by
    obtain ⟨h3, -⟩ := HS.out w' h'.right.right
    rw [List.getElem?_map] at hzk
    obtain ⟨z0, hz0, rfl⟩ := Option.map_eq_some_iff.1 hzk
    exact h3 k z0 hz0))
  rw [List.map_map] at HAS
  rw [show ((fun z : Int × Option Addr × Nat × Nat => (z.1, z.2.2.1)) ∘ fun z : Pz => ((z.1.1 : Int), z.2.1, z.1.2.length, z.2.2)) = fun z : Pz => ((z.1.1 : Int), z.1.2.length) from rfl, hask] at HAS
  have HZ : Hid (∀ z ∈ zs, z.1.1 < p ∧ z.1.2.length = 1024) := hz
  have HSUB : Hid (∀ z ∈ zs', z ∈ zs) := hsub
  have HSO : Hid (∀ w R' b2 c2, Mem wb w (row 52 2 (some ⟨b2, 0, none⟩) n c2 (pzCells zs) * R') → Calls Tryz.prog 32 #[.slice (some ⟨b2, 0, none⟩) n c2, .func (.func 33) #[] #[]] w fun e w' => e = .returned (.tuple #[]) ∧ Mem wb w' (row 52 2 (some ⟨b2, 0, none⟩) n c2 (pzCells zs') * R')) := hsort
  have hni : ¬ (n : Int) = 0 := by omega
  have hnb : ((n : Int) == 0) = false := by simpa using hni
  clear h h1 hm0 hs hz hsub hsort hask
  go_enter Tryz.func10, Tryz.ntmps10
  go_wp2_with fail
  refine HAS.out.mono ?_
  rintro e w1 ⟨rfl, hm1⟩
  dsimp only
  have HM1 := hid hm1
  have HCL := hid (PwClone_any wb w1 _ hm1 b n c zs hn (by omega) hn0 (HS.out w1 hm1.right.right.right).1)
  clear HAS hm1
  go_wp2_with fail
  refine HCL.out.mono ?_
  rintro e w2 ⟨b2, c2, rfl, hm2⟩
  dsimp only
  have hm3 := hm2.alloc [.slice (some ⟨b2, 0, none⟩) n c2] 36
  have k0 := hm3.cell 0
  simp only [List.getElem?_cons_zero] at k0
  have HST := hid (HSO.out _ _ b2 c2 hm3.p1)
  clear HCL hm2 hm3 HM1
  go_wp2_with fail
  refine HST.out.mono ?_
  rintro e w3 ⟨rfl, hm4⟩
  dsimp only
  have HCA := hid (caught_any wb w3 (devAt T8 g D * (logB g p .nilIface gl * (pts w0.heap.size 41 [.pointer (some ⟨gl, 0, none⟩)] * (pts w2.heap.size 36 [.slice (some ⟨b2, 0, none⟩) n c2] * (row 52 2 (some ⟨b2, 0, none⟩) n c2 (pzCells zs') * R))))) (commitB g p (zs'.map (·.1)) D (logB g p .nilIface gl * (pts w0.heap.size 41 [.pointer (some ⟨gl, 0, none⟩)] * (pts w2.heap.size 36 [.slice (some ⟨b2, 0, none⟩) n c2] * (row 52 2 (some ⟨b2, 0, none⟩) n c2 (pzCells zs') * R))))) emp (hm4.eq (by unfold logB; rw [sep_emp]; ac_rfl)) 35 #[.pointer (some ⟨w0.heap.size, 0, none⟩), .pointer (some ⟨w2.heap.size, 0, none⟩)] (fun w => enters53 _ w)
    (fun w1 R1 hm1 => (Commit2_any wb w1 (row 52 2 (some ⟨b2, 0, none⟩) n c2 (pzCells zs') * (R * R1)) g gl w0.heap.size w2.heap.size p n b2 c2 .nilIface zs' D (hm1.eq (by ac_rfl)) hpl hp hn' hn2 (fun z hz => HZ.out z (HSUB.out z hz)) (fun w' h' => ⟨h'.pgs, fun z hz => (HS.out w' h'.right.left).2 z (HSUB.out z hz)⟩)).mono fun e w2 hs => by
      obtain ⟨r, hr⟩ : ∃ r, ioCommit p (zs'.map (·.1)) D = r := ⟨_, rfl⟩
      rw [hr] at hs
      rcases r with ⟨c | u, D'⟩
      · obtain ⟨rfl, hc, hm⟩ := hs.error rfl
        refine .inr ⟨c, rfl, hc, ?_⟩
        unfold commitB
        rw [Mem.exl]
        refine ⟨D', ?_⟩
        rw [sep_assoc, Mem.pur, if_neg hc]
        exact ⟨hr, hm.eq (by ac_rfl)⟩
      · obtain ⟨rfl, hm⟩ := hs.unit rfl
        refine .inl ⟨rfl, ?_⟩
        unfold commitB
        rw [Mem.exl]
        refine ⟨D', ?_⟩
        rw [sep_assoc, Mem.pur, if_pos rfl]
        exact ⟨hr, hm.eq (by ac_rfl)⟩))
  have k0 := hm4.right.cell 0
  have c0 := ((hm4.eq (by unfold logB; ac_rfl : _ = pts w0.heap.size 41 [.pointer (some ⟨gl, 0, none⟩)] * (row 52 2 (some ⟨b2, 0, none⟩) n c2 (pzCells zs') * (pts w2.heap.size 36 [.slice (some ⟨b2, 0, none⟩) n c2] * (logB g p .nilIface gl * (devAt T8 g D * R))))))).cell 0
  simp only [List.getElem?_cons_zero, List.getElem?_cons_succ] at k0 c0
  clear HST hm4
  go_wp2_with fail
  refine HCA.out.mono ?_
  rintro e w4 ⟨cc, rfl, hm⟩
  dsimp only
  clear HCA
  unfold commitB at hm
  obtain ⟨D', hm1⟩ := Mem.exl.1 hm
  rw [sep_assoc, Mem.pur] at hm1
  obtain ⟨hio, hm2⟩ := hm1
  clear hm
  by_cases hc : cc = 0
  · subst hc
    rw [if_pos rfl] at hio
    have HIO := hid hio
    have HM := hid ((hm2.eq (by rw [sep_emp]; unfold logB; ac_rfl : _ = (pts w0.heap.size 41 [.pointer (some ⟨gl, 0, none⟩)] * (pts w2.heap.size 36 [.slice (some ⟨b2, 0, none⟩) n c2] * row 52 2 (some ⟨b2, 0, none⟩) n c2 (pzCells zs'))) * (logB g p .nilIface gl * (devAt T8 g D' * R)))).right)
    clear hm2 hio
    go_wp2_with fail
    go_ret
    rw [HIO.out]
    exact ⟨rfl, HM.out⟩
  · rw [if_neg hc] at hio
    have HIO := hid hio
    have HC := hid hc
    have hcn : (cc != 0) = true := by simpa using hc
    have hm5 := hm2.eq (by rw [sep_emp]; unfold logB; ac_rfl : _ = pts w0.heap.size 41 [.pointer (some ⟨gl, 0, none⟩)] * (logB g p .nilIface gl * ((pts w2.heap.size 36 [.slice (some ⟨b2, 0, none⟩) n c2] * row 52 2 (some ⟨b2, 0, none⟩) n c2 (pzCells zs')) * (devAt T8 g D' * R))))
    have c1 := hm5.cell 0
    simp only [List.getElem?_cons_zero] at c1
    have HEN := hid (ends_any wb w4 _ g p gl .nilIface hm5.p1 ⟨#[67, 111, 109, 109, 105, 116]⟩ cc)
    clear hm2 hm5 hio hc
    go_wp2_with fail
    refine HEN.out.mono ?_
    rintro e w5 ⟨v, rfl, hm6⟩
    dsimp only
    have HM := hid ((hm6.eq (by ac_rfl : _ = (pts w0.heap.size 41 [.pointer (some ⟨gl, 0, none⟩)] * (pts w2.heap.size 36 [.slice (some ⟨b2, 0, none⟩) n c2] * row 52 2 (some ⟨b2, 0, none⟩) n c2 (pzCells zs'))) * (faultB ⟨#[67, 111, 109, 109, 105, 116]⟩ 0 cc v * (logB g p v gl * (devAt T8 g D' * R))))).right)
    clear hm6
    go_wp2_with fail
    go_ret
    rw [HIO.out]
    exact ⟨_, rfl, HC.out, HM.out⟩
end Go.Proofs.YtpaebopmppbjbaaGreatDoor
