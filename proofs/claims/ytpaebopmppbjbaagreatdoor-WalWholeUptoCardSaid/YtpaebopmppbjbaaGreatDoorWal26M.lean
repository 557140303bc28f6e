import Derived.Test.YtpaebopmppbjbaaGreatDoorWalNames
import Derived.Test.YtpaebopmppbjbaaGreatDoorCalm
/- The walks of pick, clean. -/
set_option linter.unusedVariables false
set_option linter.unusedSimpArgs false
namespace Go.Le
open Go Go.RowKit
/-- pages as strings -/
def pstrs (l : List (List UInt8)) : List Value := l.map fun b => .string ⟨b.toArray⟩
theorem pstrs_length (l : List (List UInt8)) : (pstrs l).length = l.length := by simp [pstrs]
theorem pstrs_at (l : List (List UInt8)) (k : Nat) (b : List UInt8) (h : l[k]? = some b) : (pstrs l)[k]? = some (.string ⟨b.toArray⟩) := by simp [pstrs, h]
theorem ba_append (a b : List UInt8) : (⟨a.toArray⟩ : ByteArray) ++ ⟨b.toArray⟩ = ⟨(a ++ b).toArray⟩ := by
  apply ByteArray.ext
  simp
def roomCells (g gl p more : Nat) (pa : Option Addr) (pc : Nat) : List Value := [.pointer (some ⟨g, 0, none⟩), .pointer (some ⟨gl, 0, none⟩), .int .i64 (p : Int), .int .i64 (more : Int), .slice pa p pc]
end Go.Le
namespace Go.Proofs.YtpaebopmppbjbaaGreatDoor
open Go Go.RowKit Go.Le

theorem mkBytes (N : Nat) (hN : N ≤ 1000000000) (x : Int) (hx : x = (N : Int)) (w : World) : (Instr.makeSlice 50 (.int .i64 x) (.int .i64 x)).run Tryz.prog w = .ok (.slice (some ⟨w.heap.size, 0, none⟩) N N) (w.alloc (.cells (byts (zrs N)).toArray 5)) := by
  subst hx
  have h1 := run_make_bytes (P := Tryz.prog) 50 5 Tryz.underlying50 u8info' .i64 .i64 (N : Int) (by omega) (by omega) w
  rw [Int.toNat_natCast] at h1
  rw [h1, show List.replicate N (Value.int .u8 0) = byts (zrs N) by unfold zrs; rw [byts_zeros]]
theorem cvtBytes {w : World} {a : Option Addr} {n c : Nat} {l : List UInt8} (h : Sl w a n c (byts l)) : (convert 50 9 (.slice a n c)).run Tryz.prog w = .ok (.string ⟨l.toArray⟩) w :=
  h.str (P := Tryz.prog) 50 9 5 Tryz.underlying50 Tryz.underlying5 Tryz.underlying9
theorem pick9_any (w : World) (k n : Int) (h1 : 1 ≤ n) (h2 : n ≤ 4611686018427387904) (k1 : -9223372036854775808 ≤ k) (k2 : k ≤ 9223372036854775807) :
    Calls Tryz.prog 11 #[.int .i64 k, .int .i64 n] w fun e w' => e = .returned (.int .i64 (k % n)) ∧ w = w' := by
  have hn : n ≠ 0 := by omega
  by_cases hk : 0 ≤ k
  · have ht : k.tmod n = k % n := Int.tmod_eq_emod_of_nonneg hk
    have h3 := Int.emod_nonneg k hn
    have h4 := Int.emod_lt_of_pos k (show 0 < n by omega)
    generalize k % n = m at *
    have HT := hid ht
    have b0 : (n == 0) = false := by simpa using hn
    clear hn
    have ht2 := HT.out
    go_enter Tryz.func11, Tryz.ntmps11
    go_wp2
    go_ret
    exact ⟨rfl, rfl⟩
  · have ht : k.tmod n = if n ∣ k then 0 else k % n - n := by
      rw [Int.tmod_eq_emod]
      split <;> split <;> omega
    have h3 := Int.emod_nonneg k hn
    have h4 := Int.emod_lt_of_pos k (show 0 < n by omega)
    have b0 : (n == 0) = false := by simpa using hn
    by_cases hd : n ∣ k
    · have h5 : k % n = 0 := Int.emod_eq_zero_of_dvd hd
      rw [if_pos hd] at ht
      have H5 := hid h5
      clear h5 hd hn h3 h4
      go_enter Tryz.func11, Tryz.ntmps11
      go_wp2
      go_ret
      exact ⟨by rw [H5.out]; rfl, rfl⟩
    · rw [if_neg hd] at ht
      clear hd hn
      generalize k % n = m at *
      go_enter Tryz.func11, Tryz.ntmps11
      go_wp2
      go_ret
      exact ⟨rfl, rfl⟩

theorem Image_dev (wb w : World) (R : HP) (g : Nat) (D : Dev) (h : Mem wb w (devAt T8 g D * R)) :
    Calls Tryz.prog 22 #[.pointer (some ⟨g, 0, none⟩)] w fun e w' => ∃ v, e = .returned v ∧ Mem wb w' (rowB 5 D.img.length (byts D.img) v * (devAt T8 g D * R)) := by
  obtain ⟨hok, ka, kc, h1⟩ := Mem.devAt.1 h
  refine (Image_any wb w _ g D ka _ kc h1 hok).mono ?_
  rintro e w' ⟨a, c, rfl, hm⟩
  exact ⟨_, rfl, Mem.rowB.2 ⟨a, c, rfl, ((Mem.devAt.2 ⟨hok, ka, kc, hm.p1.q2.eq (by ac_rfl)⟩ : Mem wb w' (devAt T8 g D * (row 5 1 a D.img.length c (byts D.img) * R)))).p1⟩⟩

set_option maxRecDepth 20000 in
set_option maxHeartbeats 4000000 in
theorem clean_any (wb w0 : World) (R : HP) (gr g gl p more pc : Nat) (pa : Option Addr) (L : List (List UInt8)) (hL : L.length = p) (hL2 : ∀ x ∈ L, x.length = 1024) (hp : p ≤ 20) (hmo : more ≤ 3) (D : Dev)
    (h : Mem wb w0 (pts gr 43 (roomCells g gl p more pa pc) * (row 9 1 pa p pc (pstrs L) * (devAt T8 g D * R)))) (hpd : D.pend = []) (himg : D.img = zrs (512 * (1 + 2 * p)) ++ L.flatten ++ zrs (512 * more)) :
    Calls Tryz.prog 13 #[.pointer (some ⟨gr, 0, none⟩)] w0 fun e w' => e = .returned (.bool true) ∧ Mem wb w' (pts gr 43 (roomCells g gl p more pa pc) * (row 9 1 pa p pc (pstrs L) * (devAt T8 g D * R))) := by
  have HM0 := hid h
  have q2 := h.cell 2
  simp only [roomCells, List.getElem?_cons_zero, List.getElem?_cons_succ] at q2
  have w1 : IntKind.i64.wrap (2 * (p : Int)) = 2 * (p : Int) := IntWalk.i64_in _ (by omega)
  have w2 : IntKind.i64.wrap (1 + 2 * (p : Int)) = 1 + 2 * (p : Int) := IntWalk.i64_in _ (by omega)
  have w3 : IntKind.i64.wrap (512 * (1 + 2 * (p : Int))) = 512 * (1 + 2 * (p : Int)) := IntWalk.i64_in _ (by omega)
  have hmk := mkBytes (512 * (1 + 2 * p)) (by omega) (512 * (1 + 2 * (p : Int))) (by omega)
  have hal := h.alloc (byts (zrs (512 * (1 + 2 * p)))) 5
  have hcv := cvtBytes (hal.blk.1.sl_all (512 * (1 + 2 * p)) (by rw [byts_length]; exact zrs_length _) (by omega))
  have HM1 := hid hal.right
  have hNb : 512 * (1 + 2 * p) ≤ 20992 := by omega
  generalize 512 * (1 + 2 * p) = N at *
  clear h hal HM0
  go_enter Tryz.func13, Tryz.ntmps13
  go_wp2_with fail
  clear hmk hcv q2
  go_loopw [4, 5] (fun sv kv wr => ∃ (k : Nat) (acc : List UInt8), k ≤ p ∧ kv = .int .i64 k ∧ sv = .string ⟨acc.toArray⟩ ∧ acc = (L.take k).flatten ∧ acc.length = 1024 * k ∧ Mem wb wr (pts gr 43 (roomCells g gl p more pa pc) * (row 9 1 pa p pc (pstrs L) * (devAt T8 g D * R)))) (fun _ kv _ => p - (intOf kv).toNat)
  case atStart => exact ⟨0, [], by omega, rfl, rfl, rfl, rfl, HM1.out⟩
  case round =>
    obtain ⟨k, acc, hk, rfl, rfl, hac, hal, hm⟩ := hrel
    have HM := hid hm
    have HAC := hid hac
    clear hac
    have q2 := hm.cell 2
    have q4 := hm.cell 4
    simp only [roomCells, List.getElem?_cons_zero, List.getElem?_cons_succ] at q2 q4
    clear HM1
    by_cases hlt : k < p
    · have kn : (k : Int) < (p : Int) := by omega
      have hsl := hm.p1.row_sl
      obtain ⟨bp, op, rfl⟩ := hsl.addr (by omega)
      have c0 := hsl.at k hlt
      obtain ⟨pg, hpg⟩ : ∃ pg, L[k]? = some pg := ⟨L[k]'(by omega), List.getElem?_eq_getElem _⟩
      have e1 : (pstrs L)[k]'(by rw [pstrs_length]; omega) = .string ⟨pg.toArray⟩ := by
        have := pstrs_at L k pg hpg
        rw [List.getElem?_eq_getElem (by rw [pstrs_length]; omega)] at this
        exact Option.some.inj this
      rw [e1] at c0
      have e2 : (L.take (k + 1)).flatten = (L.take k).flatten ++ pg := by
        obtain ⟨h1, h2⟩ := List.getElem?_eq_some_iff.1 hpg
        rw [List.take_succ_eq_append_getElem h1, h2, List.flatten_append]
        simp
      have HE2 := hid e2
      have hap := ba_append acc pg
      have hpl : pg.length = 1024 := hL2 pg (List.mem_of_getElem? hpg)
      have hsz : ¬ 9223372036854775807 < acc.length + pg.length := by omega
      clear hm hsl hpg e1 e2
      go_wp2_with fail
      go_roundw
      case rel => exact ⟨k + 1, acc ++ pg, by omega, by go_num, by first | rfl | rw [hap], by rw [HE2.out, HAC.out], by rw [List.length_append, hal, hpl]; omega, HM.out⟩
      case measure => simp [intOf] <;> omega
    · obtain rfl : p = k := by omega
      have hae : acc = L.flatten := by rw [HAC.out, List.take_of_length_le (by omega)]
      have hdl : D.img = (zrs N ++ acc) ++ zrs (512 * more) := by rw [himg, hae]
      have h1ap := ba_append (zrs N) acc
      have h2ap := ba_append (zrs N ++ acc) (zrs (512 * more))
      rw [← hdl] at h2ap
      have hzl := zrs_length N
      have hzm := zrs_length (512 * more)
      have h1sz : (zrs N).length + acc.length ≤ 9223372036854775807 := by omega
      have h2sz : (zrs N).length + acc.length + (zrs (512 * more)).length ≤ 9223372036854775807 := by omega
      have w5 : IntKind.i64.wrap (512 * (more : Int)) = 512 * (more : Int) := IntWalk.i64_in _ (by omega)
      have hmk2 := mkBytes (512 * more) (by omega) (512 * (more : Int)) (by omega)
      obtain ⟨M, hM⟩ : ∃ M, M = 512 * more := ⟨_, rfl⟩
      rw [← hM] at hmk2 h2ap h2sz
      have kn : ¬ (p : Int) < (p : Int) := by omega
      have HDL := hid hdl
      clear hm hdl himg hae hzl hzm
      go_wp2_with fail
      refine region_mem (by kernel_rfl) (V := fun jv x => match jv with | 0 => x = (.pointer (some ⟨gr, 0, none⟩) : Value) | 1 => x = (.pointer (some ⟨gr, 0, none⟩) : Value) | 2 => x = (.pointer (some ⟨gr, 0, none⟩) : Value) | 3 => x = (.pointer (some ⟨g, 0, none⟩) : Value) | 4 => ∃ a1, x = (.slice a1 0 0 : Value) | 5 => x = (.int .i64 0 : Value) | 6 => x = (.bool true : Value) | 7 => x = (.bool true : Value) | 8 => x = (.pointer (some ⟨gr, 0, none⟩) : Value) | 9 => x = (.pointer (some ⟨gr, 0, none⟩) : Value) | 10 => x = (.pointer (some ⟨gr, 0, none⟩) : Value) | 11 => x = (.pointer (some ⟨g, 0, none⟩) : Value) | 12 => ∃ a3 c3, x = (.slice a3 D.img.length c3 : Value) | 13 => x = (.string ⟨(D.img).toArray⟩ : Value) | 14 => x = (.string ⟨(zrs N).toArray⟩ : Value) | 15 => x = (.string ⟨(acc).toArray⟩ : Value) | 16 => x = (.string ⟨(zrs N ++ acc).toArray⟩ : Value) | 17 => x = (.pointer (some ⟨gr, 0, none⟩) : Value) | 18 => x = (.pointer (some ⟨gr, 0, none⟩) : Value) | 19 => x = (.pointer (some ⟨gr, 3, none⟩) : Value) | 20 => x = (.int .i64 (more : Int) : Value) | 21 => x = (.int .i64 (512 * (more : Int)) : Value) | 22 => ∃ g2, x = (.slice (some ⟨g2, 0, none⟩) M M : Value) | 23 => x = (.string ⟨(zrs M).toArray⟩ : Value) | 24 => x = (.string ⟨(D.img).toArray⟩ : Value) | 25 => x = (.bool true : Value) | 26 => x = (.bool true : Value) | 27 => x = (.bool true : Value) | _ => True) (A := (fun _ => (pts gr 43 (roomCells g gl p more pa pc) * (row 9 1 pa p pc (pstrs L) * (devAt T8 g D * R))))) (Bs := [(12, none, rowB 5 D.img.length (byts D.img)), (22, none, blkB 5 M (byts (zrs M)))]) HM.out (fun _ _ _ => rfl) (show ([12, 22] : List Nat).Nodup by decide) (by kernel_rfl) (by kernel_rfl) ?_ ?_
      · refine ⟨?_, ?_, ?_, ?_, ?_, ?_, ?_, ?_, ?_, ?_, ?_, ?_, ?_, ?_, ?_, ?_, ?_, ?_, ?_, ?_, ?_, ?_, ?_, ?_, ?_, ?_, ?_, ?_, trivial⟩
        · refine Fine2.run trivial _ rfl (fun _ => rfl) rfl rfl (fun K a w R' hw hm hmk hf => ?_)
          have e0 : a.eval (.tmp 0) = (.pointer (some ⟨gr, 0, none⟩) : Value) := (hf 0 (by decide +kernel)).old (by kernel_rfl)
          simp only [Act.eval, Array.getD_eq_getD_getElem?] at e0
          simp [execOp, resolve, invoke, builtin, go_sem, e0]
        · refine Fine2.run trivial _ rfl (fun _ => rfl) rfl rfl (fun K a w R' hw hm hmk hf => ?_)
          have e32 : a.eval (.tmp 32) = (.pointer (some ⟨gr, 0, none⟩) : Value) := (hf 32 (by decide +kernel)).new 0 (by kernel_rfl) (by kernel_rfl)
          simp only [Act.eval, Array.getD_eq_getD_getElem?] at e32
          simp [execOp, resolve, invoke, builtin, go_sem, e32]
        · refine Fine2.run trivial _ rfl (fun _ => rfl) rfl rfl (fun K a w R' hw hm hmk hf => ?_)
          have e33 : a.eval (.tmp 33) = (.pointer (some ⟨gr, 0, none⟩) : Value) := (hf 33 (by decide +kernel)).new 1 (by kernel_rfl) (by kernel_rfl)
          simp only [Act.eval, Array.getD_eq_getD_getElem?] at e33
          simp [execOp, resolve, invoke, builtin, go_sem, e33]
        · refine Fine2.run trivial _ rfl (fun _ => rfl) rfl rfl (fun K a w R' hw hm hmk hf => ?_)
          have e34 : a.eval (.tmp 34) = (.pointer (some ⟨gr, 0, none⟩) : Value) := (hf 34 (by decide +kernel)).new 2 (by kernel_rfl) (by kernel_rfl)
          simp only [Act.eval, Array.getD_eq_getD_getElem?] at e34
          have hbx := hm.left
          have q0 := hbx.cell 0
          simp only [roomCells, List.getElem?_cons_zero, List.getElem?_cons_succ] at q0
          simp [execOp, resolve, invoke, builtin, go_sem, e34, q0]
        · refine Fine2.call trivial rfl 39 #[(.pointer (some ⟨g, 0, none⟩))] (fun a w hf => ?_) (fun K a w R' hL hw hm hmk hf => ?_)
          · have e35 : a.eval (.tmp 35) = (.pointer (some ⟨g, 0, none⟩) : Value) := (hf 35 (by decide +kernel)).new 3 (by kernel_rfl) (by kernel_rfl)
            simp only [Act.eval, Array.getD_eq_getD_getElem?] at e35
            simp [execOp, resolve, invoke, go_sem, e35]
          · refine (Cache_dev wb w _ g D (hm.eq (by ac_rfl) : Mem wb w (devAt T8 g D * (pts gr 43 (roomCells g gl p more pa pc) * (row 9 1 pa p pc (pstrs L) * (R * R'))))) (by rw [hpd]; simp)).mono ?_
            rintro e w' ⟨a1, rfl, hm'⟩
            refine ⟨_, rfl, ⟨a1, by rw [hpd]; rfl⟩, ?_⟩
            show Mem wb w' ((pts gr 43 (roomCells g gl p more pa pc) * (row 9 1 pa p pc (pstrs L) * (devAt T8 g D * R))) * (emp * R'))
            rw [emp_sep]
            exact hm'.right.eq (by ac_rfl)
        · refine Fine2.run trivial _ rfl (fun _ => rfl) rfl rfl (fun K a w R' hw hm hmk hf => ?_)
          obtain ⟨a136, e36⟩ := (hf 36 (by decide +kernel)).new 4 (by kernel_rfl) (by kernel_rfl)
          simp only [Act.eval, Array.getD_eq_getD_getElem?] at e36
          simp [execOp, resolve, invoke, builtin, go_sem, e36]
        · refine Fine2.run trivial _ rfl (fun _ => rfl) rfl rfl (fun K a w R' hw hm hmk hf => ?_)
          have e37 : a.eval (.tmp 37) = (.int .i64 0 : Value) := (hf 37 (by decide +kernel)).new 5 (by kernel_rfl) (by kernel_rfl)
          simp only [Act.eval, Array.getD_eq_getD_getElem?] at e37
          simp [execOp, resolve, invoke, builtin, go_sem, e37]
        · refine Fine2.run trivial _ rfl (fun _ => rfl) rfl rfl (fun K a w R' hw hm hmk hf => ?_)
          have e38 : a.eval (.tmp 38) = (.bool true : Value) := (hf 38 (by decide +kernel)).new 6 (by kernel_rfl) (by kernel_rfl)
          simp only [Act.eval, Array.getD_eq_getD_getElem?] at e38
          simp [execOp, resolve, invoke, builtin, go_sem, e38]
        · refine Fine2.run ⟨_, rfl, by kernel_rfl, by kernel_rfl, fun _ h => h⟩ _ rfl (fun _ => rfl) rfl rfl (fun K a w R' hw hm hmk hf => ?_)
          have e0 : a.eval (.tmp 0) = (.pointer (some ⟨gr, 0, none⟩) : Value) := (hf 0 (by decide +kernel)).old (by kernel_rfl)
          simp only [Act.eval, Array.getD_eq_getD_getElem?] at e0
          simp [execOp, resolve, invoke, builtin, go_sem, e0]
        · refine Fine2.run ⟨_, rfl, by kernel_rfl, by kernel_rfl, fun _ h => h⟩ _ rfl (fun _ => rfl) rfl rfl (fun K a w R' hw hm hmk hf => ?_)
          have e40 : a.eval (.tmp 40) = (.pointer (some ⟨gr, 0, none⟩) : Value) := (hf 40 (by decide +kernel)).new 8 (by kernel_rfl) (by kernel_rfl)
          simp only [Act.eval, Array.getD_eq_getD_getElem?] at e40
          simp [execOp, resolve, invoke, builtin, go_sem, e40]
        · refine Fine2.run ⟨_, rfl, by kernel_rfl, by kernel_rfl, fun _ h => h⟩ _ rfl (fun _ => rfl) rfl rfl (fun K a w R' hw hm hmk hf => ?_)
          have e41 : a.eval (.tmp 41) = (.pointer (some ⟨gr, 0, none⟩) : Value) := (hf 41 (by decide +kernel)).new 9 (by kernel_rfl) (by kernel_rfl)
          simp only [Act.eval, Array.getD_eq_getD_getElem?] at e41
          simp [execOp, resolve, invoke, builtin, go_sem, e41]
        · refine Fine2.run ⟨_, rfl, by kernel_rfl, by kernel_rfl, fun _ h => h⟩ _ rfl (fun _ => rfl) rfl rfl (fun K a w R' hw hm hmk hf => ?_)
          have e42 : a.eval (.tmp 42) = (.pointer (some ⟨gr, 0, none⟩) : Value) := (hf 42 (by decide +kernel)).new 10 (by kernel_rfl) (by kernel_rfl)
          simp only [Act.eval, Array.getD_eq_getD_getElem?] at e42
          have hbx := hm.left
          have q0 := hbx.cell 0
          simp only [roomCells, List.getElem?_cons_zero, List.getElem?_cons_succ] at q0
          simp [execOp, resolve, invoke, builtin, go_sem, e42, q0]
        · refine Fine2.call ⟨_, rfl, by kernel_rfl, by kernel_rfl, fun _ h => h⟩ rfl 22 #[(.pointer (some ⟨g, 0, none⟩))] (fun a w hf => ?_) (fun K a w R' hL hw hm hmk hf => ?_)
          · have e43 : a.eval (.tmp 43) = (.pointer (some ⟨g, 0, none⟩) : Value) := (hf 43 (by decide +kernel)).new 11 (by kernel_rfl) (by kernel_rfl)
            simp only [Act.eval, Array.getD_eq_getD_getElem?] at e43
            simp [execOp, resolve, invoke, go_sem, e43]
          · refine (Image_dev wb w _ g D (hm.eq (by ac_rfl) : Mem wb w (devAt T8 g D * (pts gr 43 (roomCells g gl p more pa pc) * (row 9 1 pa p pc (pstrs L) * (R * R')))))).mono ?_
            rintro e w' ⟨v, rfl, hm'⟩
            obtain ⟨a3, c3, h3, -⟩ := hm'.rowB_sl
            exact ⟨v, rfl, ⟨a3, c3, h3⟩, hm'.eq (by show _ = (pts gr 43 (roomCells g gl p more pa pc) * (row 9 1 pa p pc (pstrs L) * (devAt T8 g D * R))) * (rowB 5 D.img.length (byts D.img) v * R'); ac_rfl)⟩
        · refine Fine2.run ⟨_, rfl, by kernel_rfl, by kernel_rfl, fun _ h => h⟩ _ rfl (fun _ => rfl) rfl rfl (fun K a w R' hw hm hmk hf => ?_)
          obtain ⟨R', rfl⟩ := hmk [true, false] (by kernel_rfl)
          have hm : Mem _ w (_ * (_ * R')) := hm
          obtain ⟨a2, c2, e2, hs⟩ := hm.p1.rowB_sl
          have e44 : a.eval (.tmp 44) = .slice a2 _ c2 := e2
          have hst := cvtBytes hs
          simp only [Act.eval, Array.getD_eq_getD_getElem?] at e44
          simp [execOp, resolve, invoke, builtin, go_sem, e44, hst]
        · refine Fine2.run ⟨_, rfl, by kernel_rfl, by kernel_rfl, fun _ h => h⟩ _ rfl (fun _ => rfl) rfl rfl (fun K a w R' hw hm hmk hf => ?_)
          have e3 : a.eval (.tmp 3) = (.string ⟨(zrs N).toArray⟩ : Value) := (hf 3 (by decide +kernel)).old (by kernel_rfl)
          simp only [Act.eval, Array.getD_eq_getD_getElem?] at e3
          simp [execOp, resolve, invoke, builtin, go_sem, e3]
        · refine Fine2.run ⟨_, rfl, by kernel_rfl, by kernel_rfl, fun _ h => h⟩ _ rfl (fun _ => rfl) rfl rfl (fun K a w R' hw hm hmk hf => ?_)
          have e4 : a.eval (.tmp 4) = (.string ⟨(acc).toArray⟩ : Value) := (hf 4 (by decide +kernel)).old (by kernel_rfl)
          simp only [Act.eval, Array.getD_eq_getD_getElem?] at e4
          simp [execOp, resolve, invoke, builtin, go_sem, e4]
        · refine Fine2.run ⟨_, rfl, by kernel_rfl, by kernel_rfl, fun _ h => h⟩ _ rfl (fun _ => rfl) rfl rfl (fun K a w R' hw hm hmk hf => ?_)
          have e46 : a.eval (.tmp 46) = (.string ⟨(zrs N).toArray⟩ : Value) := (hf 46 (by decide +kernel)).new 14 (by kernel_rfl) (by kernel_rfl)
          have e47 : a.eval (.tmp 47) = (.string ⟨(acc).toArray⟩ : Value) := (hf 47 (by decide +kernel)).new 15 (by kernel_rfl) (by kernel_rfl)
          simp only [Act.eval, Array.getD_eq_getD_getElem?] at e46 e47
          simp [execOp, resolve, invoke, builtin, go_sem, e46, e47, h1sz, h1ap]
        · refine Fine2.run ⟨_, rfl, by kernel_rfl, by kernel_rfl, fun _ h => h⟩ _ rfl (fun _ => rfl) rfl rfl (fun K a w R' hw hm hmk hf => ?_)
          have e0 : a.eval (.tmp 0) = (.pointer (some ⟨gr, 0, none⟩) : Value) := (hf 0 (by decide +kernel)).old (by kernel_rfl)
          simp only [Act.eval, Array.getD_eq_getD_getElem?] at e0
          simp [execOp, resolve, invoke, builtin, go_sem, e0]
        · refine Fine2.run ⟨_, rfl, by kernel_rfl, by kernel_rfl, fun _ h => h⟩ _ rfl (fun _ => rfl) rfl rfl (fun K a w R' hw hm hmk hf => ?_)
          have e49 : a.eval (.tmp 49) = (.pointer (some ⟨gr, 0, none⟩) : Value) := (hf 49 (by decide +kernel)).new 17 (by kernel_rfl) (by kernel_rfl)
          simp only [Act.eval, Array.getD_eq_getD_getElem?] at e49
          simp [execOp, resolve, invoke, builtin, go_sem, e49]
        · refine Fine2.run ⟨_, rfl, by kernel_rfl, by kernel_rfl, fun _ h => h⟩ _ rfl (fun _ => rfl) rfl rfl (fun K a w R' hw hm hmk hf => ?_)
          have e50 : a.eval (.tmp 50) = (.pointer (some ⟨gr, 0, none⟩) : Value) := (hf 50 (by decide +kernel)).new 18 (by kernel_rfl) (by kernel_rfl)
          simp only [Act.eval, Array.getD_eq_getD_getElem?] at e50
          simp [execOp, resolve, invoke, builtin, go_sem, e50]
        · refine Fine2.run ⟨_, rfl, by kernel_rfl, by kernel_rfl, fun _ h => h⟩ _ rfl (fun _ => rfl) rfl rfl (fun K a w R' hw hm hmk hf => ?_)
          have e51 : a.eval (.tmp 51) = (.pointer (some ⟨gr, 3, none⟩) : Value) := (hf 51 (by decide +kernel)).new 19 (by kernel_rfl) (by kernel_rfl)
          simp only [Act.eval, Array.getD_eq_getD_getElem?] at e51
          have hbx := hm.left
          have q0 := hbx.cell 3
          simp only [roomCells, List.getElem?_cons_zero, List.getElem?_cons_succ] at q0
          simp [execOp, resolve, invoke, builtin, go_sem, e51, q0]
        · refine Fine2.run ⟨_, rfl, by kernel_rfl, by kernel_rfl, fun _ h => h⟩ _ rfl (fun _ => rfl) rfl rfl (fun K a w R' hw hm hmk hf => ?_)
          have e52 : a.eval (.tmp 52) = (.int .i64 (more : Int) : Value) := (hf 52 (by decide +kernel)).new 20 (by kernel_rfl) (by kernel_rfl)
          simp only [Act.eval, Array.getD_eq_getD_getElem?] at e52
          simp [execOp, resolve, invoke, builtin, go_sem, e52, w5]
        · refine Fine2.open ⟨_, rfl, by kernel_rfl, by kernel_rfl, fun _ h => h⟩ (fun K a w R' hL hw hm hmk hf => ?_)
          rw [eaten_none rfl, emp_sep] at hm
          have e53 : a.eval (.tmp 53) = (.int .i64 (512 * (more : Int)) : Value) := (hf 53 (by decide +kernel)).new 21 (by kernel_rfl) (by kernel_rfl)
          simp only [Act.eval, Array.getD_eq_getD_getElem?] at e53
          refine ⟨(.slice (some ⟨w.heap.size, 0, none⟩) M M), w.alloc (.cells (byts (zrs M)).toArray 5), ?_, ⟨_, rfl⟩, ?_⟩
          · simp [execOp, resolve, invoke, builtin, go_sem, e53, hmk2]
          · exact (Mem.blkB.2 ⟨_, rfl, hm.alloc (byts (zrs M)) 5⟩ : Mem wb _ (blkB 5 M (byts (zrs M)) _ * _)).p1
        · refine Fine2.run ⟨_, rfl, by kernel_rfl, by kernel_rfl, fun _ h => h⟩ _ rfl (fun _ => rfl) rfl rfl (fun K a w R' hw hm hmk hf => ?_)
          obtain ⟨R', rfl⟩ := hmk [false, true] (by kernel_rfl)
          have hm : Mem _ w (_ * (_ * R')) := hm
          obtain ⟨g2, e2, m2⟩ := Mem.blkB.1 hm.p1
          have e54 : a.eval (.tmp 54) = .slice (some ⟨g2, 0, none⟩) M M := e2
          have hst := cvtBytes (m2.blk.1.sl_all M (by rw [byts_length]; exact zrs_length _) (by omega))
          simp only [Act.eval, Array.getD_eq_getD_getElem?] at e54
          simp [execOp, resolve, invoke, builtin, go_sem, e54, hst]
        · refine Fine2.run ⟨_, rfl, by kernel_rfl, by kernel_rfl, fun _ h => h⟩ _ rfl (fun _ => rfl) rfl rfl (fun K a w R' hw hm hmk hf => ?_)
          have e48 : a.eval (.tmp 48) = (.string ⟨(zrs N ++ acc).toArray⟩ : Value) := (hf 48 (by decide +kernel)).new 16 (by kernel_rfl) (by kernel_rfl)
          have e55 : a.eval (.tmp 55) = (.string ⟨(zrs M).toArray⟩ : Value) := (hf 55 (by decide +kernel)).new 23 (by kernel_rfl) (by kernel_rfl)
          simp only [Act.eval, Array.getD_eq_getD_getElem?] at e48 e55
          simp [execOp, resolve, invoke, builtin, go_sem, e48, e55, h2sz, h2ap]
        · refine Fine2.run ⟨_, rfl, by kernel_rfl, by kernel_rfl, fun _ h => h⟩ _ rfl (fun _ => rfl) rfl rfl (fun K a w R' hw hm hmk hf => ?_)
          have e45 : a.eval (.tmp 45) = (.string ⟨(D.img).toArray⟩ : Value) := (hf 45 (by decide +kernel)).new 13 (by kernel_rfl) (by kernel_rfl)
          have e56 : a.eval (.tmp 56) = (.string ⟨(D.img).toArray⟩ : Value) := (hf 56 (by decide +kernel)).new 24 (by kernel_rfl) (by kernel_rfl)
          simp only [Act.eval, Array.getD_eq_getD_getElem?] at e45 e56
          simp [execOp, resolve, invoke, builtin, go_sem, e45, e56]
        · refine Fine2.run trivial _ rfl (fun _ => rfl) rfl rfl (fun K a w R' hw hm hmk hf => ?_)
          have e39 : a.eval (.tmp 39) = (.bool true : Value) := (hf 39 (by decide +kernel)).new 7 (by kernel_rfl) (by kernel_rfl)
          have e57 : a.eval (.tmp 57) = (.bool true : Value) := (hf 57 (by decide +kernel)).new 25 (by kernel_rfl) (by kernel_rfl)
          simp only [Act.eval, Array.getD_eq_getD_getElem?] at e39 e57
          simp [execOp, resolve, invoke, builtin, go_sem, e39, e57]
        · refine Fine2.run trivial _ rfl (fun _ => rfl) rfl rfl (fun K a w R' hw hm hmk hf => ?_)
          have e58 : a.eval (.tmp 58) = (.bool true : Value) := (hf 58 (by decide +kernel)).new 26 (by kernel_rfl) (by kernel_rfl)
          simp only [Act.eval, Array.getD_eq_getD_getElem?] at e58
          simp [execOp, resolve, invoke, builtin, go_sem, e58]
      · intro u w9 hu hm9
        have hb : u 2 = .bool true := hu 2 27 rfl
        have HF := hid (hm9.left : Mem wb w9 (pts gr 43 (roomCells g gl p more pa pc) * (row 9 1 pa p pc (pstrs L) * (devAt T8 g D * R))))
        simp only [putAll]
        rw [hb]
        clear hm9 hu hb HM h1ap h2ap h1sz h2sz hmk2
        go_simp
        go_wp2_with fail
        go_ret
        exact ⟨rfl, HF.out⟩
end Go.Proofs.YtpaebopmppbjbaaGreatDoor

/- The walk of entered. -/
set_option linter.unusedVariables false
set_option linter.unusedSimpArgs false
namespace Go.Le
open Go Go.RowKit
/-- a box that is new, and its cells -/
def boxB (t : TypeId) (cs : List Value) (v : Value) : HP := ex fun g : Nat => pur (v = .pointer (some ⟨g, 0, none⟩)) * pts g t cs
def newB (val : Nat → Value) (A : Nat → HP) (v : Value) : HP := ex fun g : Nat => pur (v = val g) * A g
theorem Mem.newB {wb w : World} {R : HP} {val : Nat → Value} {A : Nat → HP} {v : Value} : Mem wb w (Le.newB val A v * R) ↔ ∃ g, v = val g ∧ Mem wb w (A g * R) := by
  unfold Le.newB
  rw [Mem.exl]
  constructor
  · rintro ⟨g, h⟩
    rw [sep_assoc, Mem.pur] at h
    exact ⟨g, h.1, h.2⟩
  · rintro ⟨g, h1, h2⟩
    exact ⟨g, by rw [sep_assoc, Mem.pur]; exact ⟨h1, h2⟩⟩
section
variable {P : Program} {Q : Exit → Act → World → Prop} {wb : World} {A : (Nat → Bool) → HP} {V : Vals} {Bs : List (Nat × Option Nat × (Value → HP))} {a0 : Act} {w0 : World} {l : List Oper}
/-- any other operation, of which what waits for it is not done -/
theorem Fine2.openC {i : Nat} {o : Oper} (hst : Stands l V o) (h : ∀ L a w R, L i = false → (∀ j, waits .any o j = true → L j = true) → Mem wb w (A L * (eaten l Bs i a * R)) → (∀ m : List Bool, (sel m Bs).all (fun x => waits .any o x.1 && x.2.1.isNone) = true → ∃ R', R = stars ((sel m Bs).map fun x => x.2.2 (valOf l a x.1)) R') →
      (∀ d ∈ o.looksAt l.toArray, See l V a0 o a d) → (∀ j o', l[j]? = some o' → L j = true → ∀ k, waits .any o' k = true → L k = true) → ∃ v w', (execOp a.eval o).run P w = .ok (.value v) w' ∧ V i v ∧ Mem wb w' (A (doneSet L i) * (Go.Le.mk Bs i v * R))) : Fine2 P Q wb A V Bs a0 l i o := by
  refine .inl ⟨hst, fun L a w K R hL hw hm hmk hf hdf hcl hK => ?_⟩
  obtain ⟨v, w', h1, h2, h3⟩ := h L a w R hL hw hm hmk hf hcl
  unfold Oper.wp
  rw [h1]
  exact hK v w' h2 h3
end
theorem fresh_calm (n : Nat) (h1 : 1 ≤ n) (h2 : n ≤ 4096) : Calm (Dev.fresh (zrs (n * 512))) n := ⟨fresh_ok _ n (zrs_length _) h1 h2, zrs_length _, rfl, rfl⟩
theorem sec_zeros (n j : Nat) (h : j < n) : sec (zrs (n * 512)) j = sect0 := by
  unfold sec sect0 zrs
  rw [List.drop_replicate, List.take_replicate]
  congr 1
  have : j * 512 + 512 ≤ n * 512 := by omega
  omega
theorem zero_open (n p : Nat) (h1 : 1 ≤ n) (h2 : n ≤ 4096) (hp : roomOf n = p) (hp0 : p ≠ 0) (hn : 4 * p + 1 ≤ n) : ∃ D', ioOpen (Dev.fresh (zrs (n * 512))) = (.ok (p, false), D') ∧ Calm D' n ∧ D'.pend = [] ∧ D'.img = zrs (n * 512) := by
  have hc := fresh_calm n h1 h2
  have hl : ∀ j, j < n → (Dev.fresh (zrs (n * 512))).last j = sect0 := fun j hj => by rw [hc.img_eq rfl]; exact sec_zeros n j hj
  obtain ⟨D', e1, e2, e3, e4⟩ := hc.open_fallen hp hp0 hn rfl (by rw [hl 0 (by omega)]; unfold List.getD; rw [show sect0[511]? = some 0 from zrs_at 512 511 (by omega)]; rfl)
  refine ⟨D', e1, e2, e3, img_ext n e2.img (zrs_length _) fun j hj => ?_⟩
  rw [← e2.img_eq e3, e4 j hj, sec_zeros n j hj]
  split
  · rfl
  · exact hl j hj
theorem Mem.boxB {wb w : World} {R : HP} {t : TypeId} {cs : List Value} {v : Value} : Mem wb w (Le.boxB t cs v * R) ↔ ∃ g, v = .pointer (some ⟨g, 0, none⟩) ∧ Mem wb w (pts g t cs * R) := by
  unfold Le.boxB
  rw [Mem.exl]
  constructor
  · rintro ⟨g, h⟩
    rw [sep_assoc, Mem.pur] at h
    exact ⟨g, h.1, h.2⟩
  · rintro ⟨g, h1, h2⟩
    exact ⟨g, by rw [sep_assoc, Mem.pur]; exact ⟨h1, h2⟩⟩
end Go.Le
namespace Go.Proofs.YtpaebopmppbjbaaGreatDoor
open Go Go.RowKit Go.Le

theorem strInfo : (Tryz.prog.info? 9).map (fun i => (i.zero, i.size, i.bytes)) = some (some (.string ⟨#[]⟩), 1, 16) := by kernel_rfl
set_option maxRecDepth 20000 in
set_option maxHeartbeats 4000000 in
theorem entered_any (wb w0 : World) (R : HP) (h : Mem wb w0 R) (a0 b0 : Int) (x0 : Value) (a1 : -9223372036854775808 ≤ a0) (a2 : a0 ≤ 9223372036854775807) (b1 : -9223372036854775808 ≤ b0) (b2 : b0 ≤ 9223372036854775807) (p more : Nat) (hp : (p : Int) = 1 + a0 % 20) (hmo : (more : Int) = b0 % 4) (n : Nat) (hnn : n = 4 * p + 1 + more) :
    Calls Tryz.prog 5 #[.agg #[.int .i64 a0, .int .i64 b0, x0]] w0 fun e w' => ∃ (gr g gl : Nat) (pa : Option Addr) (pc : Nat) (D' : Dev), e = .returned (.tuple #[.pointer (some ⟨gr, 0, none⟩), .bool true]) ∧ Le.Calm D' n ∧ D'.pend = [] ∧ D'.img = zrs (n * 512) ∧
      Mem wb w' (pts gr 43 (roomCells g gl p more pa pc) * (row 9 1 pa p pc (pstrs (List.replicate p (zrs 1024))) * (logB g p .nilIface gl * (devAt T8 g D' * R)))) := by
  have HP1 := hid (fun w => pick9_any w a0 20 (by omega) (by omega) a1 a2)
  have HP2 := hid (fun w => pick9_any w b0 4 (by omega) (by omega) b1 b2)
  obtain ⟨pm, hpm⟩ : ∃ pm : Nat, a0 % 20 = (pm : Int) := ⟨(a0 % 20).toNat, by have := Int.emod_nonneg a0 (show (20 : Int) ≠ 0 by omega); omega⟩
  rw [hpm] at HP1 hp
  rw [← hmo] at HP2
  have hpm20 : pm < 20 := by have := Int.emod_lt_of_pos a0 (show (0 : Int) < 20 by omega); omega
  have hm4 : more < 4 := by have := Int.emod_lt_of_pos b0 (show (0 : Int) < 4 by omega); omega
  have w1 : IntKind.i64.wrap (1 + (pm : Int)) = (p : Int) := by rw [IntWalk.i64_in _ (by omega)]; omega
  have HM0 := hid (h.alloc [.int .i64 a0, .int .i64 b0, x0] 24)
  clear h hpm hmo a1 a2 b1 b2
  go_enter Tryz.func5, Tryz.ntmps5
  go_wp2_with fail
  refine region_mem (by kernel_rfl) (V := fun jv x => match jv with | 0 => x = (.pointer (some ⟨w0.heap.size, 0, none⟩) : Value) | 1 => x = (.int .i64 a0 : Value) | 2 => x = (.int .i64 (pm : Int) : Value) | 3 => x = (.int .i64 (p : Int) : Value) | 4 => x = (.pointer (some ⟨w0.heap.size, 1, none⟩) : Value) | 5 => x = (.int .i64 b0 : Value) | 6 => x = (.int .i64 (more : Int) : Value) | 7 => x = (.agg #[.pointer none, .pointer none, .int .i64 (p : Int), .int .i64 (more : Int), .slice none 0 0] : Value) | 8 => ∃ gr, x = (.pointer (some ⟨gr, 0, none⟩) : Value) | 9 => ∃ gr, x = (.pointer (some ⟨gr, 0, none⟩) : Value) | _ => True) (A := (fun _ => (pts w0.heap.size 24 [.int .i64 a0, .int .i64 b0, x0] * R))) (Bs := [(8, some 9, boxB 43 [.pointer none, .pointer none, .int .i64 (p : Int), .int .i64 (more : Int), .slice none 0 0]), (9, none, boxB 43 [.pointer none, .pointer none, .int .i64 (p : Int), .int .i64 (more : Int), .slice none 0 0])]) HM0.out (fun _ _ _ => rfl) (show ([8, 9] : List Nat).Nodup by decide) (by kernel_rfl) (by kernel_rfl) ?_ ?_
  · refine ⟨?_, ?_, ?_, ?_, ?_, ?_, ?_, ?_, ?_, ?_, trivial⟩
    · refine Fine2.run trivial _ rfl (fun _ => rfl) rfl rfl (fun L a w R' hw hm hmk hf => ?_)
      have e1 : a.eval (.tmp 1) = (.pointer (some ⟨w0.heap.size, 0, none⟩) : Value) := (hf 1 (by decide +kernel)).old (by kernel_rfl)
      simp only [Act.eval, Array.getD_eq_getD_getElem?] at e1
      simp [execOp, resolve, invoke, builtin, go_sem, e1]
    · refine Fine2.run trivial _ rfl (fun _ => rfl) rfl rfl (fun L a w R' hw hm hmk hf => ?_)
      have e11 : a.eval (.tmp 11) = (.pointer (some ⟨w0.heap.size, 0, none⟩) : Value) := (hf 11 (by decide +kernel)).new 0 (by kernel_rfl) (by kernel_rfl)
      simp only [Act.eval, Array.getD_eq_getD_getElem?] at e11
      have hbx := hm.left
      have q0 := hbx.cell 0
      simp only [List.getElem?_cons_zero, List.getElem?_cons_succ] at q0
      simp [execOp, resolve, invoke, builtin, go_sem, e11, q0]
    · refine Fine2.call trivial rfl 11 #[.int .i64 a0, .int .i64 20] (fun a w hf => ?_) (fun L a w R' hL hw hm hmk hf => ?_)
      · have e12 : a.eval (.tmp 12) = (.int .i64 a0 : Value) := (hf 12 (by decide +kernel)).new 1 (by kernel_rfl) (by kernel_rfl)
        simp only [Act.eval, Array.getD_eq_getD_getElem?] at e12
        simp [execOp, resolve, invoke, go_sem, e12]
      · refine (HP1.out w).mono ?_
        rintro e w' ⟨rfl, rfl⟩
        refine ⟨_, rfl, rfl, ?_⟩
        show Mem wb w ((pts w0.heap.size 24 [.int .i64 a0, .int .i64 b0, x0] * R) * (emp * R'))
        rw [emp_sep]
        exact hm
    · refine Fine2.run trivial _ rfl (fun _ => rfl) rfl rfl (fun L a w R' hw hm hmk hf => ?_)
      have e13 : a.eval (.tmp 13) = (.int .i64 (pm : Int) : Value) := (hf 13 (by decide +kernel)).new 2 (by kernel_rfl) (by kernel_rfl)
      simp only [Act.eval, Array.getD_eq_getD_getElem?] at e13
      simp [execOp, resolve, invoke, builtin, go_sem, e13, w1]
    · refine Fine2.run trivial _ rfl (fun _ => rfl) rfl rfl (fun L a w R' hw hm hmk hf => ?_)
      have e1 : a.eval (.tmp 1) = (.pointer (some ⟨w0.heap.size, 0, none⟩) : Value) := (hf 1 (by decide +kernel)).old (by kernel_rfl)
      simp only [Act.eval, Array.getD_eq_getD_getElem?] at e1
      simp [execOp, resolve, invoke, builtin, go_sem, e1]
    · refine Fine2.run trivial _ rfl (fun _ => rfl) rfl rfl (fun L a w R' hw hm hmk hf => ?_)
      have e15 : a.eval (.tmp 15) = (.pointer (some ⟨w0.heap.size, 1, none⟩) : Value) := (hf 15 (by decide +kernel)).new 4 (by kernel_rfl) (by kernel_rfl)
      simp only [Act.eval, Array.getD_eq_getD_getElem?] at e15
      have hbx := hm.left
      have q0 := hbx.cell 1
      simp only [List.getElem?_cons_zero, List.getElem?_cons_succ] at q0
      simp [execOp, resolve, invoke, builtin, go_sem, e15, q0]
    · refine Fine2.call trivial rfl 11 #[.int .i64 b0, .int .i64 4] (fun a w hf => ?_) (fun L a w R' hL hw hm hmk hf => ?_)
      · have e16 : a.eval (.tmp 16) = (.int .i64 b0 : Value) := (hf 16 (by decide +kernel)).new 5 (by kernel_rfl) (by kernel_rfl)
        simp only [Act.eval, Array.getD_eq_getD_getElem?] at e16
        simp [execOp, resolve, invoke, go_sem, e16]
      · refine (HP2.out w).mono ?_
        rintro e w' ⟨rfl, rfl⟩
        refine ⟨_, rfl, rfl, ?_⟩
        show Mem wb w ((pts w0.heap.size 24 [.int .i64 a0, .int .i64 b0, x0] * R) * (emp * R'))
        rw [emp_sep]
        exact hm
    · refine Fine2.run trivial _ rfl (fun _ => rfl) rfl rfl (fun L a w R' hw hm hmk hf => ?_)
      have e14 : a.eval (.tmp 14) = (.int .i64 (p : Int) : Value) := (hf 14 (by decide +kernel)).new 3 (by kernel_rfl) (by kernel_rfl)
      have e17 : a.eval (.tmp 17) = (.int .i64 (more : Int) : Value) := (hf 17 (by decide +kernel)).new 6 (by kernel_rfl) (by kernel_rfl)
      simp only [Act.eval, Array.getD_eq_getD_getElem?] at e14 e17
      simp [execOp, resolve, invoke, builtin, go_sem, e14, e17]
    · refine Fine2.open trivial (fun L a w R' hL hw hm hmk hf => ?_)
      rw [eaten_none rfl, emp_sep] at hm
      have e18 : a.eval (.tmp 18) = (.agg #[.pointer none, .pointer none, .int .i64 (p : Int), .int .i64 (more : Int), .slice none 0 0] : Value) := (hf 18 (by decide +kernel)).new 7 (by kernel_rfl) (by kernel_rfl)
      simp only [Act.eval, Array.getD_eq_getD_getElem?] at e18
      refine ⟨(.pointer (some ⟨w.heap.size, 0, none⟩)), w.alloc (.cells #[.pointer none, .pointer none, .int .i64 (p : Int), .int .i64 (more : Int), .slice none 0 0] 43), ?_, ⟨_, rfl⟩, ?_⟩
      · simp [execOp, resolve, invoke, builtin, go_sem, e18]
      · exact (Mem.boxB.2 ⟨_, rfl, hm.alloc [.pointer none, .pointer none, .int .i64 (p : Int), .int .i64 (more : Int), .slice none 0 0] 43⟩ : Mem wb _ (boxB 43 [.pointer none, .pointer none, .int .i64 (p : Int), .int .i64 (more : Int), .slice none 0 0] _ * _)).p1
    · refine Fine2.open trivial (fun L a w R' hL hw hm hmk hf => ?_)
      have hm' : Mem wb w ((pts w0.heap.size 24 [.int .i64 a0, .int .i64 b0, x0] * R) * (((boxB 43 [.pointer none, .pointer none, .int .i64 (p : Int), .int .i64 (more : Int), .slice none 0 0]) (a.eval (.tmp 19)) * (emp * emp)) * R')) := hm
      simp only [emp_sep, sep_emp] at hm'
      obtain ⟨gr, e19, m1⟩ := Mem.boxB.1 hm'.p1
      refine ⟨(.pointer (some ⟨gr, 0, none⟩)), w, ?_, ⟨gr, rfl⟩, ?_⟩
      · have e19 := e19
        simp only [Act.eval, Array.getD_eq_getD_getElem?] at e19
        simp [execOp, resolve, invoke, go_sem, e19]
      · show Mem wb w ((pts w0.heap.size 24 [.int .i64 a0, .int .i64 b0, x0] * R) * ((boxB 43 [.pointer none, .pointer none, .int .i64 (p : Int), .int .i64 (more : Int), .slice none 0 0]) (.pointer (some ⟨gr, 0, none⟩)) * R'))
        have h9 : Mem wb w ((boxB 43 [.pointer none, .pointer none, .int .i64 (p : Int), .int .i64 (more : Int), .slice none 0 0]) (.pointer (some ⟨gr, 0, none⟩)) * ((pts w0.heap.size 24 [.int .i64 a0, .int .i64 b0, x0] * R) * R')) := Mem.boxB.2 ⟨gr, rfl, m1⟩
        exact h9.eq (by ac_rfl)
  · intro u w9 hu hm9
    have hm8 : Mem wb w9 (pts w0.heap.size 24 [.int .i64 a0, .int .i64 b0, x0] * R * (emp * (boxB 43 [.pointer none, .pointer none, .int .i64 (p : Int), .int .i64 (more : Int), .slice none 0 0] (u 4) * emp))) := hm9
    rw [emp_sep, sep_emp] at hm8
    obtain ⟨gr, hu4, hm7⟩ := Mem.boxB.1 hm8.last
    have HM2 := hid ((hm7.eq (by ac_rfl : _ = pts w0.heap.size 24 [.int .i64 a0, .int .i64 b0, x0] * (pts gr 43 [.pointer none, .pointer none, .int .i64 (p : Int), .int .i64 (more : Int), .slice none 0 0] * R))).right)
    have HND := hid (fun w => Need_any w (p : Int))
    rw [show needOf (p : Int) = 4 * (p : Int) + 1 by unfold needOf; rw [if_neg (by omega)]] at HND
    have HNW := hid (fun w R h => New_any wb w R h n (by omega) (by omega))
    have w2 : IntKind.i64.wrap (4 * (p : Int) + 1 + (more : Int)) = (n : Int) := by rw [IntWalk.i64_in _ (by omega)]; omega
    simp only [putAll]
    rw [hu4]
    clear hm9 hm8 hm7 hu hu4 HM0 HP1 HP2
    go_simp
    go_wp2_with fail
    refine region_mem (by kernel_rfl) (V := fun jv x => match jv with | 0 => x = (.pointer (some ⟨gr, 0, none⟩) : Value) | 1 => x = (.pointer (some ⟨gr, 0, none⟩) : Value) | 2 => x = (.pointer (some ⟨gr, 2, none⟩) : Value) | 3 => x = (.int .i64 (p : Int) : Value) | 4 => x = (.int .i64 (4 * (p : Int) + 1) : Value) | 5 => x = (.pointer (some ⟨gr, 0, none⟩) : Value) | 6 => x = (.pointer (some ⟨gr, 0, none⟩) : Value) | 7 => x = (.pointer (some ⟨gr, 3, none⟩) : Value) | 8 => x = (.int .i64 (more : Int) : Value) | 9 => x = (.int .i64 (n : Int) : Value) | 10 => ∃ gd, x = (.tuple #[.pointer (some ⟨gd, 0, none⟩), .int .i64 0] : Value) | 11 => ∃ gd, x = (.tuple #[.pointer (some ⟨gd, 0, none⟩), .int .i64 0] : Value) | 12 => ∃ gd, x = (.pointer (some ⟨gd, 0, none⟩) : Value) | 13 => x = (.int .i64 0 : Value) | 14 => ∃ gd, x = (.pointer (some ⟨gd, 0, none⟩) : Value) | 15 => x = (.int .i64 0 : Value) | _ => True) (A := (fun _ => (pts gr 43 [.pointer none, .pointer none, .int .i64 (p : Int), .int .i64 (more : Int), .slice none 0 0] * R))) (Bs := [(10, some 11, (newB (fun g => .tuple #[.pointer (some ⟨g, 0, none⟩), .int .i64 0]) (fun g => devAt T8 g (Dev.fresh (zrs (n * 512)))))), (11, some 12, (newB (fun g => .tuple #[.pointer (some ⟨g, 0, none⟩), .int .i64 0]) (fun g => devAt T8 g (Dev.fresh (zrs (n * 512)))))), (12, some 14, (newB (fun g => .pointer (some ⟨g, 0, none⟩)) (fun g => devAt T8 g (Dev.fresh (zrs (n * 512)))))), (14, none, (newB (fun g => .pointer (some ⟨g, 0, none⟩)) (fun g => devAt T8 g (Dev.fresh (zrs (n * 512))))))]) HM2.out (fun _ _ _ => rfl) (show ([10, 11, 12, 14] : List Nat).Nodup by decide) (by kernel_rfl) (by kernel_rfl) ?_ ?_
    · refine ⟨?_, ?_, ?_, ?_, ?_, ?_, ?_, ?_, ?_, ?_, ?_, ?_, ?_, ?_, ?_, ?_, trivial⟩
      · refine Fine2.run trivial _ rfl (fun _ => rfl) rfl rfl (fun L a w R' hw hm hmk hf => ?_)
        have e4 : a.eval (.tmp 4) = (.pointer (some ⟨gr, 0, none⟩) : Value) := (hf 4 (by decide +kernel)).old (by kernel_rfl)
        simp only [Act.eval, Array.getD_eq_getD_getElem?] at e4
        simp [execOp, resolve, invoke, builtin, go_sem, e4]
      · refine Fine2.run trivial _ rfl (fun _ => rfl) rfl rfl (fun L a w R' hw hm hmk hf => ?_)
        have e21 : a.eval (.tmp 21) = (.pointer (some ⟨gr, 0, none⟩) : Value) := (hf 21 (by decide +kernel)).new 0 (by kernel_rfl) (by kernel_rfl)
        simp only [Act.eval, Array.getD_eq_getD_getElem?] at e21
        simp [execOp, resolve, invoke, builtin, go_sem, e21]
      · refine Fine2.run trivial _ rfl (fun _ => rfl) rfl rfl (fun L a w R' hw hm hmk hf => ?_)
        have e22 : a.eval (.tmp 22) = (.pointer (some ⟨gr, 0, none⟩) : Value) := (hf 22 (by decide +kernel)).new 1 (by kernel_rfl) (by kernel_rfl)
        simp only [Act.eval, Array.getD_eq_getD_getElem?] at e22
        simp [execOp, resolve, invoke, builtin, go_sem, e22]
      · refine Fine2.run trivial _ rfl (fun _ => rfl) rfl rfl (fun L a w R' hw hm hmk hf => ?_)
        have e23 : a.eval (.tmp 23) = (.pointer (some ⟨gr, 2, none⟩) : Value) := (hf 23 (by decide +kernel)).new 2 (by kernel_rfl) (by kernel_rfl)
        simp only [Act.eval, Array.getD_eq_getD_getElem?] at e23
        have hbx := hm.left
        have q0 := hbx.cell 2
        simp only [List.getElem?_cons_zero, List.getElem?_cons_succ] at q0
        simp [execOp, resolve, invoke, builtin, go_sem, e23, q0]
      · refine Fine2.call trivial rfl 17 #[.int .i64 (p : Int)] (fun a w hf => ?_) (fun L a w R' hL hw hm hmk hf => ?_)
        · have e24 : a.eval (.tmp 24) = (.int .i64 (p : Int) : Value) := (hf 24 (by decide +kernel)).new 3 (by kernel_rfl) (by kernel_rfl)
          simp only [Act.eval, Array.getD_eq_getD_getElem?] at e24
          simp [execOp, resolve, invoke, go_sem, e24]
        · refine (HND.out w).mono ?_
          rintro e w' ⟨rfl, rfl⟩
          refine ⟨_, rfl, rfl, ?_⟩
          show Mem wb w ((pts gr 43 [.pointer none, .pointer none, .int .i64 (p : Int), .int .i64 (more : Int), .slice none 0 0] * R) * (emp * R'))
          rw [emp_sep]
          exact hm
      · refine Fine2.run trivial _ rfl (fun _ => rfl) rfl rfl (fun L a w R' hw hm hmk hf => ?_)
        have e4 : a.eval (.tmp 4) = (.pointer (some ⟨gr, 0, none⟩) : Value) := (hf 4 (by decide +kernel)).old (by kernel_rfl)
        simp only [Act.eval, Array.getD_eq_getD_getElem?] at e4
        simp [execOp, resolve, invoke, builtin, go_sem, e4]
      · refine Fine2.run trivial _ rfl (fun _ => rfl) rfl rfl (fun L a w R' hw hm hmk hf => ?_)
        have e26 : a.eval (.tmp 26) = (.pointer (some ⟨gr, 0, none⟩) : Value) := (hf 26 (by decide +kernel)).new 5 (by kernel_rfl) (by kernel_rfl)
        simp only [Act.eval, Array.getD_eq_getD_getElem?] at e26
        simp [execOp, resolve, invoke, builtin, go_sem, e26]
      · refine Fine2.run trivial _ rfl (fun _ => rfl) rfl rfl (fun L a w R' hw hm hmk hf => ?_)
        have e27 : a.eval (.tmp 27) = (.pointer (some ⟨gr, 0, none⟩) : Value) := (hf 27 (by decide +kernel)).new 6 (by kernel_rfl) (by kernel_rfl)
        simp only [Act.eval, Array.getD_eq_getD_getElem?] at e27
        simp [execOp, resolve, invoke, builtin, go_sem, e27]
      · refine Fine2.run trivial _ rfl (fun _ => rfl) rfl rfl (fun L a w R' hw hm hmk hf => ?_)
        have e28 : a.eval (.tmp 28) = (.pointer (some ⟨gr, 3, none⟩) : Value) := (hf 28 (by decide +kernel)).new 7 (by kernel_rfl) (by kernel_rfl)
        simp only [Act.eval, Array.getD_eq_getD_getElem?] at e28
        have hbx := hm.left
        have q0 := hbx.cell 3
        simp only [List.getElem?_cons_zero, List.getElem?_cons_succ] at q0
        simp [execOp, resolve, invoke, builtin, go_sem, e28, q0]
      · refine Fine2.run trivial _ rfl (fun _ => rfl) rfl rfl (fun L a w R' hw hm hmk hf => ?_)
        have e25 : a.eval (.tmp 25) = (.int .i64 (4 * (p : Int) + 1) : Value) := (hf 25 (by decide +kernel)).new 4 (by kernel_rfl) (by kernel_rfl)
        have e29 : a.eval (.tmp 29) = (.int .i64 (more : Int) : Value) := (hf 29 (by decide +kernel)).new 8 (by kernel_rfl) (by kernel_rfl)
        simp only [Act.eval, Array.getD_eq_getD_getElem?] at e25 e29
        simp [execOp, resolve, invoke, builtin, go_sem, e25, e29, w2]
      · refine Fine2.call trivial rfl 16 #[.int .i64 (n : Int)] (fun a w hf => ?_) (fun L a w R' hL hw hm hmk hf => ?_)
        · have e30 : a.eval (.tmp 30) = (.int .i64 (n : Int) : Value) := (hf 30 (by decide +kernel)).new 9 (by kernel_rfl) (by kernel_rfl)
          simp only [Act.eval, Array.getD_eq_getD_getElem?] at e30
          simp [execOp, resolve, invoke, go_sem, e30]
        · refine (HNW.out w _ hm).mono ?_
          rintro e w' ⟨g, rfl, hm'⟩
          refine ⟨_, rfl, ⟨g, rfl⟩, ?_⟩
          exact ((Mem.newB.2 ⟨g, rfl, hm'⟩ : Mem wb w' ((newB (fun g => .tuple #[.pointer (some ⟨g, 0, none⟩), .int .i64 0]) (fun g => devAt T8 g (Dev.fresh (zrs (n * 512))))) _ * ((pts gr 43 [.pointer none, .pointer none, .int .i64 (p : Int), .int .i64 (more : Int), .slice none 0 0] * R) * R')))).eq (by show _ = (pts gr 43 [.pointer none, .pointer none, .int .i64 (p : Int), .int .i64 (more : Int), .slice none 0 0] * R) * ((newB (fun g => .tuple #[.pointer (some ⟨g, 0, none⟩), .int .i64 0]) (fun g => devAt T8 g (Dev.fresh (zrs (n * 512))))) _ * R'); ac_rfl)
      · refine Fine2.open trivial (fun L a w R' hL hw hm hmk hf => ?_)
        have hm' : Mem wb w ((pts gr 43 [.pointer none, .pointer none, .int .i64 (p : Int), .int .i64 (more : Int), .slice none 0 0] * R) * (((newB (fun g => .tuple #[.pointer (some ⟨g, 0, none⟩), .int .i64 0]) (fun g => devAt T8 g (Dev.fresh (zrs (n * 512))))) (a.eval (.tmp 31)) * (emp * (emp * (emp * emp)))) * R')) := hm
        simp only [emp_sep, sep_emp] at hm'
        obtain ⟨gd, e31, m1⟩ := Mem.newB.1 hm'.p1
        refine ⟨(.tuple #[.pointer (some ⟨gd, 0, none⟩), .int .i64 0]), w, ?_, ⟨gd, rfl⟩, ?_⟩
        · have e31 := e31
          simp only [Act.eval, Array.getD_eq_getD_getElem?] at e31
          simp [execOp, resolve, invoke, go_sem, e31]
        · show Mem wb w ((pts gr 43 [.pointer none, .pointer none, .int .i64 (p : Int), .int .i64 (more : Int), .slice none 0 0] * R) * ((newB (fun g => .tuple #[.pointer (some ⟨g, 0, none⟩), .int .i64 0]) (fun g => devAt T8 g (Dev.fresh (zrs (n * 512))))) (.tuple #[.pointer (some ⟨gd, 0, none⟩), .int .i64 0]) * R'))
          have h9 : Mem wb w ((newB (fun g => .tuple #[.pointer (some ⟨g, 0, none⟩), .int .i64 0]) (fun g => devAt T8 g (Dev.fresh (zrs (n * 512))))) (.tuple #[.pointer (some ⟨gd, 0, none⟩), .int .i64 0]) * ((pts gr 43 [.pointer none, .pointer none, .int .i64 (p : Int), .int .i64 (more : Int), .slice none 0 0] * R) * R')) := Mem.newB.2 ⟨gd, rfl, m1⟩
          exact h9.eq (by ac_rfl)
      · refine Fine2.open trivial (fun L a w R' hL hw hm hmk hf => ?_)
        have hm' : Mem wb w ((pts gr 43 [.pointer none, .pointer none, .int .i64 (p : Int), .int .i64 (more : Int), .slice none 0 0] * R) * ((emp * ((newB (fun g => .tuple #[.pointer (some ⟨g, 0, none⟩), .int .i64 0]) (fun g => devAt T8 g (Dev.fresh (zrs (n * 512))))) (a.eval (.tmp 20)) * (emp * (emp * emp)))) * R')) := hm
        simp only [emp_sep, sep_emp] at hm'
        obtain ⟨gd, e20, m1⟩ := Mem.newB.1 hm'.p1
        refine ⟨(.pointer (some ⟨gd, 0, none⟩)), w, ?_, ⟨gd, rfl⟩, ?_⟩
        · have e20 := e20
          simp only [Act.eval, Array.getD_eq_getD_getElem?] at e20
          simp [execOp, resolve, invoke, go_sem, e20]
        · show Mem wb w ((pts gr 43 [.pointer none, .pointer none, .int .i64 (p : Int), .int .i64 (more : Int), .slice none 0 0] * R) * ((newB (fun g => .pointer (some ⟨g, 0, none⟩)) (fun g => devAt T8 g (Dev.fresh (zrs (n * 512))))) (.pointer (some ⟨gd, 0, none⟩)) * R'))
          have h9 : Mem wb w ((newB (fun g => .pointer (some ⟨g, 0, none⟩)) (fun g => devAt T8 g (Dev.fresh (zrs (n * 512))))) (.pointer (some ⟨gd, 0, none⟩)) * ((pts gr 43 [.pointer none, .pointer none, .int .i64 (p : Int), .int .i64 (more : Int), .slice none 0 0] * R) * R')) := Mem.newB.2 ⟨gd, rfl, m1⟩
          exact h9.eq (by ac_rfl)
      · refine Fine2.run trivial _ rfl (fun _ => rfl) rfl rfl (fun L a w R' hw hm hmk hf => ?_)
        obtain ⟨gd20, e20⟩ := (hf 20 (by decide +kernel)).new 11 (by kernel_rfl) (by kernel_rfl)
        simp only [Act.eval, Array.getD_eq_getD_getElem?] at e20
        simp [execOp, resolve, invoke, builtin, go_sem, e20]
      · refine Fine2.open trivial (fun L a w R' hL hw hm hmk hf => ?_)
        have hm' : Mem wb w ((pts gr 43 [.pointer none, .pointer none, .int .i64 (p : Int), .int .i64 (more : Int), .slice none 0 0] * R) * ((emp * (emp * ((newB (fun g => .pointer (some ⟨g, 0, none⟩)) (fun g => devAt T8 g (Dev.fresh (zrs (n * 512))))) (a.eval (.tmp 32)) * (emp * emp)))) * R')) := hm
        simp only [emp_sep, sep_emp] at hm'
        obtain ⟨gd, e32, m1⟩ := Mem.newB.1 hm'.p1
        refine ⟨(.pointer (some ⟨gd, 0, none⟩)), w, ?_, ⟨gd, rfl⟩, ?_⟩
        · have e32 := e32
          simp only [Act.eval, Array.getD_eq_getD_getElem?] at e32
          simp [execOp, resolve, invoke, go_sem, e32]
        · show Mem wb w ((pts gr 43 [.pointer none, .pointer none, .int .i64 (p : Int), .int .i64 (more : Int), .slice none 0 0] * R) * ((newB (fun g => .pointer (some ⟨g, 0, none⟩)) (fun g => devAt T8 g (Dev.fresh (zrs (n * 512))))) (.pointer (some ⟨gd, 0, none⟩)) * R'))
          have h9 : Mem wb w ((newB (fun g => .pointer (some ⟨g, 0, none⟩)) (fun g => devAt T8 g (Dev.fresh (zrs (n * 512))))) (.pointer (some ⟨gd, 0, none⟩)) * ((pts gr 43 [.pointer none, .pointer none, .int .i64 (p : Int), .int .i64 (more : Int), .slice none 0 0] * R) * R')) := Mem.newB.2 ⟨gd, rfl, m1⟩
          exact h9.eq (by ac_rfl)
      · refine Fine2.run trivial _ rfl (fun _ => rfl) rfl rfl (fun L a w R' hw hm hmk hf => ?_)
        have e33 : a.eval (.tmp 33) = (.int .i64 0 : Value) := (hf 33 (by decide +kernel)).new 13 (by kernel_rfl) (by kernel_rfl)
        simp only [Act.eval, Array.getD_eq_getD_getElem?] at e33
        simp [execOp, resolve, invoke, builtin, go_sem, e33]
    · intro u w9 hu hm9
      have hm8 : Mem wb w9 (pts gr 43 [.pointer none, .pointer none, .int .i64 (p : Int), .int .i64 (more : Int), .slice none 0 0] * R * (emp * (emp * (emp * ((newB (fun g => .pointer (some ⟨g, 0, none⟩)) (fun g => devAt T8 g (Dev.fresh (zrs (n * 512))))) (u 5) * emp))))) := hm9
      simp only [emp_sep, sep_emp] at hm8
      obtain ⟨g, hu5, hm7⟩ := Mem.newB.1 hm8.last
      have hu6 : u 6 = .int .i64 0 := hu 6 15 rfl
      have hro : roomOf n = p := by unfold roomOf; rw [if_neg (by omega)]; omega
      obtain ⟨D', z1, z2, z3, z4⟩ := zero_open n p (by omega) (by omega) hro (by omega) (by omega)
      have hpl : (Dev.fresh (zrs (n * 512))).pend.length ≤ 700000000 := by show ([] : List (Nat × List UInt8)).length ≤ _; simp
      have HOP := Open_any wb w9 _ g _ hm7 hpl
      rw [z1] at HOP
      have HOP := hid HOP
      have Z2 := hid z2
      have Z3 := hid z3
      have Z4 := hid z4
      simp only [putAll]
      rw [hu5, hu6]
      clear hm9 hm8 hm7 hu hu5 hu6 HM2 HND HNW hpl z1 z2 z3 z4 hro
      go_simp
      go_wp2_with fail
      refine HOP.out.mono ?_
      rintro e w2 ⟨gl, rfl, hm2⟩
      dsimp only
      have hm3 := hm2.eq (by ac_rfl : _ = pts gr 43 [.pointer none, .pointer none, .int .i64 (p : Int), .int .i64 (more : Int), .slice none 0 0] * (logB g p .nilIface gl * (devAt T8 g D' * R)))
      have q0 := hm3.cell 0
      have q1 := hm3.cell 1
      have f0 := hm3.frozen 0
      have f1 := hm3.frozen 1
      simp only [List.getElem?_cons_zero, List.getElem?_cons_succ] at q0 q1
      have hm4 := (hm3.setCell 0 (.pointer (some ⟨g, 0, none⟩))).setCell 1 (.pointer (some ⟨gl, 0, none⟩))
      simp only [List.set_cons_zero, List.set_cons_succ] at hm4
      have HM4 := hid hm4
      have hmk3 := mkBytes 1024 (by omega) 1024 rfl
      obtain ⟨si, i1, i2, i3, i4⟩ := info_parts strInfo
      have SI : Hid (Tryz.prog.info? 9 = some si ∧ si.zero = some (.string ⟨#[]⟩) ∧ si.size = 1 ∧ si.bytes = 16) := ⟨i1, i2, i3, i4⟩
      clear HOP hm2 hm3 hm4 i1 i2 i3 i4
      go_wp2_with fail
      go_loopw [10] (fun iv wr => ∃ (k : Nat) (pa : Option Addr) (pc : Nat), k ≤ p ∧ iv = .int .i64 k ∧ Mem wb wr (pts gr 43 [.pointer (some ⟨g, 0, none⟩), .pointer (some ⟨gl, 0, none⟩), .int .i64 (p : Int), .int .i64 (more : Int), .slice pa k pc] * (row 9 1 pa k pc (pstrs (List.replicate k (zrs 1024))) * (logB g p .nilIface gl * (devAt T8 g D' * R))))) (fun iv _ => p - (intOf iv).toNat)
      case atStart => exact ⟨0, none, 0, by omega, rfl, (Mem.row_none.2 ⟨rfl, rfl, rfl, HM4.out⟩ : Mem wb _ (row 9 1 none 0 0 [] * _)).p1⟩
      case round =>
        obtain ⟨k, pa, pc, hk, rfl, hm⟩ := hrel
        have HM3 := hid (hm.eq (by ac_rfl : _ = pts gr 43 [.pointer (some ⟨g, 0, none⟩), .pointer (some ⟨gl, 0, none⟩), .int .i64 (p : Int), .int .i64 (more : Int), .slice pa k pc] * row 9 1 pa k pc (pstrs (List.replicate k (zrs 1024))) * (logB g p .nilIface gl * (devAt T8 g D' * R))))
        have q2 := hm.cell 2
        simp only [List.getElem?_cons_zero, List.getElem?_cons_succ] at q2
        clear HM4 hm q0 q1 f0 f1
        by_cases hlt : k < p
        · have kn : (k : Int) < (p : Int) := by omega
          go_wp2_with fail
          refine region_mem (by kernel_rfl) (V := fun jv x => match jv with | 0 => x = (.pointer (some ⟨gr, 0, none⟩) : Value) | 1 => x = (.pointer (some ⟨gr, 0, none⟩) : Value) | 2 => x = (.pointer (some ⟨gr, 0, none⟩) : Value) | 3 => x = (.pointer (some ⟨gr, 4, none⟩) : Value) | 4 => x = (.slice pa k pc : Value) | 5 => ∃ g2, x = (.slice (some ⟨g2, 0, none⟩) 1024 1024 : Value) | 6 => x = (.string ⟨(zrs 1024).toArray⟩ : Value) | 7 => ∃ g2, x = (.slice (some ⟨g2, 0, none⟩) 1 1 : Value) | 8 => ∃ a2 c2, x = (.slice a2 (k + 1) c2 : Value) | 9 => x = (.pointer (some ⟨gr, 0, none⟩) : Value) | 10 => x = (.pointer (some ⟨gr, 4, none⟩) : Value) | 11 => x = undef | _ => True) (A := (fun L => (if L 11 then (ex fun x : Option Addr × Nat => pts gr 43 [.pointer (some ⟨g, 0, none⟩), .pointer (some ⟨gl, 0, none⟩), .int .i64 (p : Int), .int .i64 (more : Int), .slice x.1 (k + 1) x.2] * row 9 1 x.1 (k + 1) x.2 (pstrs (List.replicate (k + 1) (zrs 1024)))) else pts gr 43 [.pointer (some ⟨g, 0, none⟩), .pointer (some ⟨gl, 0, none⟩), .int .i64 (p : Int), .int .i64 (more : Int), .slice pa k pc] * (if L 8 then emp else row 9 1 pa k pc (pstrs (List.replicate k (zrs 1024))))) * (logB g p .nilIface gl * (devAt T8 g D' * R)))) (Bs := [(5, none, blkB 5 1024 (byts (zrs 1024))), (7, none, blkB 9 1 [.string ⟨(zrs 1024).toArray⟩]), (8, some 11, rowB 9 (k + 1) (pstrs (List.replicate (k + 1) (zrs 1024))))]) HM3.out (fun L L' h => by show (if L 11 then _ else _ * (if L 8 then _ else _)) * _ = (if L' 11 then _ else _ * (if L' 8 then _ else _)) * _; rw [h 11 (by decide), h 8 (by decide)]) (show ([5, 7, 8] : List Nat).Nodup by decide) (by kernel_rfl) (by kernel_rfl) ?_ ?_
          · refine ⟨?_, ?_, ?_, ?_, ?_, ?_, ?_, ?_, ?_, ?_, ?_, ?_, trivial⟩
            · refine Fine2.run trivial _ rfl (fun _ => rfl) rfl rfl (fun L a w R' hw hm hmk hf => ?_)
              have e4 : a.eval (.tmp 4) = (.pointer (some ⟨gr, 0, none⟩) : Value) := (hf 4 (by decide +kernel)).old (by kernel_rfl)
              simp only [Act.eval, Array.getD_eq_getD_getElem?] at e4
              simp [execOp, resolve, invoke, builtin, go_sem, e4]
            · refine Fine2.run trivial _ rfl (fun _ => rfl) rfl rfl (fun L a w R' hw hm hmk hf => ?_)
              have e4 : a.eval (.tmp 4) = (.pointer (some ⟨gr, 0, none⟩) : Value) := (hf 4 (by decide +kernel)).old (by kernel_rfl)
              simp only [Act.eval, Array.getD_eq_getD_getElem?] at e4
              simp [execOp, resolve, invoke, builtin, go_sem, e4]
            · refine Fine2.run trivial _ rfl (fun _ => rfl) rfl rfl (fun L a w R' hw hm hmk hf => ?_)
              have e64 : a.eval (.tmp 64) = (.pointer (some ⟨gr, 0, none⟩) : Value) := (hf 64 (by decide +kernel)).new 1 (by kernel_rfl) (by kernel_rfl)
              simp only [Act.eval, Array.getD_eq_getD_getElem?] at e64
              simp [execOp, resolve, invoke, builtin, go_sem, e64]
            · refine Fine2.run trivial _ rfl (fun _ => rfl) rfl rfl (fun L a w R' hw hm hmk hf => ?_)
              have e65 : a.eval (.tmp 65) = (.pointer (some ⟨gr, 0, none⟩) : Value) := (hf 65 (by decide +kernel)).new 2 (by kernel_rfl) (by kernel_rfl)
              simp only [Act.eval, Array.getD_eq_getD_getElem?] at e65
              simp [execOp, resolve, invoke, builtin, go_sem, e65]
            · refine Fine2.runC trivial _ rfl (fun _ => rfl) rfl rfl (fun L a w R' hL hw hm hmk hf hcl => ?_)
              have e66 : a.eval (.tmp 66) = (.pointer (some ⟨gr, 4, none⟩) : Value) := (hf 66 (by decide +kernel)).new 3 (by kernel_rfl) (by kernel_rfl)
              simp only [Act.eval, Array.getD_eq_getD_getElem?] at e66
              have hL11 : L 11 = false := not_done hcl hL 11 _ rfl (by kernel_rfl)
              have hm : Mem wb w ((if L 11 then (ex fun x : Option Addr × Nat => pts gr 43 [.pointer (some ⟨g, 0, none⟩), .pointer (some ⟨gl, 0, none⟩), .int .i64 (p : Int), .int .i64 (more : Int), .slice x.1 (k + 1) x.2] * row 9 1 x.1 (k + 1) x.2 (pstrs (List.replicate (k + 1) (zrs 1024)))) else pts gr 43 [.pointer (some ⟨g, 0, none⟩), .pointer (some ⟨gl, 0, none⟩), .int .i64 (p : Int), .int .i64 (more : Int), .slice pa k pc] * (if L 8 then emp else row 9 1 pa k pc (pstrs (List.replicate k (zrs 1024))))) * (logB g p .nilIface gl * (devAt T8 g D' * R)) * R') := hm
              rw [hL11] at hm
              have hm : Mem wb w (pts gr 43 [.pointer (some ⟨g, 0, none⟩), .pointer (some ⟨gl, 0, none⟩), .int .i64 (p : Int), .int .i64 (more : Int), .slice pa k pc] * (if L 8 then emp else row 9 1 pa k pc (pstrs (List.replicate k (zrs 1024)))) * (logB g p .nilIface gl * (devAt T8 g D' * R)) * R') := hm
              have q4 := hm.left.left.cell 4
              simp only [List.getElem?_cons_zero, List.getElem?_cons_succ] at q4
              simp [execOp, resolve, invoke, builtin, go_sem, e66, q4]
            · refine Fine2.open trivial (fun L a w R' hL hw hm hmk hf => ?_)
              rw [eaten_none rfl, emp_sep] at hm
              skip
              refine ⟨(.slice (some ⟨w.heap.size, 0, none⟩) 1024 1024), w.alloc (.cells (byts (zrs 1024)).toArray 5), ?_, ⟨_, rfl⟩, ?_⟩
              · simp [execOp, resolve, invoke, builtin, go_sem, hmk3]
              · exact (Mem.blkB.2 ⟨_, rfl, hm.alloc (byts (zrs 1024)) 5⟩ : Mem wb _ (blkB 5 1024 (byts (zrs 1024)) _ * _)).p1
            · refine Fine2.run trivial _ rfl (fun _ => rfl) rfl rfl (fun L a w R' hw hm hmk hf => ?_)
              obtain ⟨R', rfl⟩ := hmk [true, false, false] (by kernel_rfl)
              have hm : Mem _ w (_ * (_ * R')) := hm
              obtain ⟨g2, e2, m2⟩ := Mem.blkB.1 hm.p1
              have e68 : a.eval (.tmp 68) = .slice (some ⟨g2, 0, none⟩) 1024 1024 := e2
              have hst := cvtBytes (m2.blk.1.sl_all 1024 (by rw [byts_length]; exact zrs_length _) (by omega))
              simp only [Act.eval, Array.getD_eq_getD_getElem?] at e68
              simp [execOp, resolve, invoke, builtin, go_sem, e68, hst]
            · refine Fine2.open trivial (fun L a w R' hL hw hm hmk hf => ?_)
              rw [eaten_none rfl, emp_sep] at hm
              have e69 : a.eval (.tmp 69) = (.string ⟨(zrs 1024).toArray⟩ : Value) := (hf 69 (by decide +kernel)).new 6 (by kernel_rfl) (by kernel_rfl)
              simp only [Act.eval, Array.getD_eq_getD_getElem?] at e69
              refine ⟨(.slice (some ⟨w.heap.size, 0, none⟩) 1 1), w.alloc (.cells #[.string ⟨(zrs 1024).toArray⟩] 9), ?_, ⟨_, rfl⟩, ?_⟩
              · simp [execOp, resolve, invoke, builtin, go_sem, e69]
              · exact (Mem.blkB.2 ⟨_, rfl, hm.alloc [.string ⟨(zrs 1024).toArray⟩] 9⟩ : Mem wb _ (blkB 9 1 [.string ⟨(zrs 1024).toArray⟩] _ * _)).p1
            · refine Fine2.openC trivial (fun L a w R' hL hw hm hmk hf hcl => ?_)
              rw [eaten_none rfl, emp_sep] at hm
              obtain ⟨R3, hR3⟩ := hmk [false, true, false] (by kernel_rfl)
              have hL11 : L 11 = false := not_done hcl hL 11 _ rfl (by kernel_rfl)
              have hm : Mem wb w ((if L 11 then (ex fun x : Option Addr × Nat => pts gr 43 [.pointer (some ⟨g, 0, none⟩), .pointer (some ⟨gl, 0, none⟩), .int .i64 (p : Int), .int .i64 (more : Int), .slice x.1 (k + 1) x.2] * row 9 1 x.1 (k + 1) x.2 (pstrs (List.replicate (k + 1) (zrs 1024)))) else pts gr 43 [.pointer (some ⟨g, 0, none⟩), .pointer (some ⟨gl, 0, none⟩), .int .i64 (p : Int), .int .i64 (more : Int), .slice pa k pc] * (if L 8 then emp else row 9 1 pa k pc (pstrs (List.replicate k (zrs 1024))))) * (logB g p .nilIface gl * (devAt T8 g D' * R)) * R') := hm
              rw [hL, hL11] at hm
              have hm : Mem wb w (pts gr 43 [.pointer (some ⟨g, 0, none⟩), .pointer (some ⟨gl, 0, none⟩), .int .i64 (p : Int), .int .i64 (more : Int), .slice pa k pc] * row 9 1 pa k pc (pstrs (List.replicate k (zrs 1024))) * (logB g p .nilIface gl * (devAt T8 g D' * R)) * R') := hm
              have hm2 := hm
              rw [hR3] at hm2
              obtain ⟨g2, y, m2⟩ := Mem.blkB.1 (show Mem wb w (_ * (_ * R3)) from hm2).p1
              have e70 : a.eval (.tmp 70) = .slice (some ⟨g2, 0, none⟩) 1 1 := y
              have e67 : a.eval (.tmp 67) = (.slice pa k pc : Value) := (hf 67 (by decide +kernel)).new 4 (by kernel_rfl) (by kernel_rfl)
              have h1 := hm.eq (by ac_rfl : _ = row 9 1 pa k pc (pstrs (List.replicate k (zrs 1024))) * (pts gr 43 [.pointer (some ⟨g, 0, none⟩), .pointer (some ⟨gl, 0, none⟩), .int .i64 (p : Int), .int .i64 (more : Int), .slice pa k pc] * ((logB g p .nilIface gl * (devAt T8 g D' * R)) * R')))
              obtain ⟨a3, c3, w', hr, hd, -, -⟩ := h1.append (P := Tryz.prog) 37 37 Tryz.underlying37 SI.out.1 SI.out.2.1 SI.out.2.2.1 SI.out.2.2.2 rfl (by omega) (by rfl : ([.string ⟨(zrs 1024).toArray⟩] : List Value).length = 1 * 1) (news_built m2.blk.1) (fun h => by cases h) (by intro u hu; simp at hu; subst hu; rfl) (by omega) (by omega)
              have ep : pstrs (List.replicate k (zrs 1024)) ++ [.string ⟨(zrs 1024).toArray⟩] = pstrs (List.replicate (k + 1) (zrs 1024)) := by rw [List.replicate_succ']; simp [pstrs]
              rw [ep] at hd
              refine ⟨.slice a3 (k + 1) c3, w', ?_, ⟨a3, c3, rfl⟩, ?_⟩
              · have hr : (Builtin.append_ #[37, 37] 37 #[.slice pa k pc, .slice (some ⟨g2, 0, none⟩) 1 1]).run Tryz.prog w = .ok (.slice a3 (k + 1) c3) w' := hr
                simp [execOp, resolve, invoke, builtin, e67, e70, hr, Result.andThen]
              · show Mem wb w' ((if doneSet L 8 11 then (ex fun x : Option Addr × Nat => pts gr 43 [.pointer (some ⟨g, 0, none⟩), .pointer (some ⟨gl, 0, none⟩), .int .i64 (p : Int), .int .i64 (more : Int), .slice x.1 (k + 1) x.2] * row 9 1 x.1 (k + 1) x.2 (pstrs (List.replicate (k + 1) (zrs 1024)))) else pts gr 43 [.pointer (some ⟨g, 0, none⟩), .pointer (some ⟨gl, 0, none⟩), .int .i64 (p : Int), .int .i64 (more : Int), .slice pa k pc] * (if doneSet L 8 8 then emp else row 9 1 pa k pc (pstrs (List.replicate k (zrs 1024))))) * (logB g p .nilIface gl * (devAt T8 g D' * R)) * (rowB 9 (k + 1) (pstrs (List.replicate (k + 1) (zrs 1024))) (.slice a3 (k + 1) c3) * R'))
                rw [show doneSet L 8 11 = L 11 from rfl, hL11, show doneSet L 8 8 = true from rfl]
                have h9 : Mem wb w' (rowB 9 (k + 1) (pstrs (List.replicate (k + 1) (zrs 1024))) (.slice a3 (k + 1) c3) * (pts gr 43 [.pointer (some ⟨g, 0, none⟩), .pointer (some ⟨gl, 0, none⟩), .int .i64 (p : Int), .int .i64 (more : Int), .slice pa k pc] * ((logB g p .nilIface gl * (devAt T8 g D' * R)) * R'))) := Mem.rowB.2 ⟨a3, c3, rfl, hd.duo_row⟩
                exact h9.eq (by show _ = pts gr 43 [.pointer (some ⟨g, 0, none⟩), .pointer (some ⟨gl, 0, none⟩), .int .i64 (p : Int), .int .i64 (more : Int), .slice pa k pc] * emp * (logB g p .nilIface gl * (devAt T8 g D' * R)) * (rowB 9 (k + 1) (pstrs (List.replicate (k + 1) (zrs 1024))) (.slice a3 (k + 1) c3) * R'); rw [sep_emp]; ac_rfl)
            · refine Fine2.run trivial _ rfl (fun _ => rfl) rfl rfl (fun L a w R' hw hm hmk hf => ?_)
              have e63 : a.eval (.tmp 63) = (.pointer (some ⟨gr, 0, none⟩) : Value) := (hf 63 (by decide +kernel)).new 0 (by kernel_rfl) (by kernel_rfl)
              simp only [Act.eval, Array.getD_eq_getD_getElem?] at e63
              simp [execOp, resolve, invoke, builtin, go_sem, e63]
            · refine Fine2.run trivial _ rfl (fun _ => rfl) rfl rfl (fun L a w R' hw hm hmk hf => ?_)
              have e72 : a.eval (.tmp 72) = (.pointer (some ⟨gr, 0, none⟩) : Value) := (hf 72 (by decide +kernel)).new 9 (by kernel_rfl) (by kernel_rfl)
              simp only [Act.eval, Array.getD_eq_getD_getElem?] at e72
              simp [execOp, resolve, invoke, builtin, go_sem, e72]
            · refine Fine2.store trivial rfl (fun L a w R' hL hw hm hmk hf => ?_)
              have hL8 : L 8 = true := hw 8 (by kernel_rfl)
              have hm' : Mem wb w ((if L 11 then (ex fun x : Option Addr × Nat => pts gr 43 [.pointer (some ⟨g, 0, none⟩), .pointer (some ⟨gl, 0, none⟩), .int .i64 (p : Int), .int .i64 (more : Int), .slice x.1 (k + 1) x.2] * row 9 1 x.1 (k + 1) x.2 (pstrs (List.replicate (k + 1) (zrs 1024)))) else pts gr 43 [.pointer (some ⟨g, 0, none⟩), .pointer (some ⟨gl, 0, none⟩), .int .i64 (p : Int), .int .i64 (more : Int), .slice pa k pc] * (if L 8 then emp else row 9 1 pa k pc (pstrs (List.replicate k (zrs 1024))))) * (logB g p .nilIface gl * (devAt T8 g D' * R)) * ((emp * (emp * (rowB 9 (k + 1) (pstrs (List.replicate (k + 1) (zrs 1024))) (a.eval (.tmp 71)) * emp))) * R')) := hm
              rw [hL, hL8, emp_sep, emp_sep, sep_emp] at hm'
              have hm' : Mem wb w (pts gr 43 [.pointer (some ⟨g, 0, none⟩), .pointer (some ⟨gl, 0, none⟩), .int .i64 (p : Int), .int .i64 (more : Int), .slice pa k pc] * emp * (logB g p .nilIface gl * (devAt T8 g D' * R)) * (rowB 9 (k + 1) (pstrs (List.replicate (k + 1) (zrs 1024))) (a.eval (.tmp 71)) * R')) := hm'
              rw [sep_emp] at hm'
              obtain ⟨a3, c3, e71, m1⟩ := Mem.rowB.1 hm'.p1
              have hb := m1.eq (by ac_rfl : _ = pts gr 43 [.pointer (some ⟨g, 0, none⟩), .pointer (some ⟨gl, 0, none⟩), .int .i64 (p : Int), .int .i64 (more : Int), .slice pa k pc] * (row 9 1 a3 (k + 1) c3 (pstrs (List.replicate (k + 1) (zrs 1024))) * ((logB g p .nilIface gl * (devAt T8 g D' * R)) * R')))
              have q4 := hb.cell 4
              have f4 := hb.frozen 4
              simp only [List.getElem?_cons_zero, List.getElem?_cons_succ] at q4
              have hs2 := hb.setCell 4 (.slice a3 (k + 1) c3)
              have e73 : a.eval (.tmp 73) = (.pointer (some ⟨gr, 4, none⟩) : Value) := (hf 73 (by decide +kernel)).new 10 (by kernel_rfl) (by kernel_rfl)
              simp only [Act.eval, Array.getD_eq_getD_getElem?] at e73 e71
              refine ⟨w.setCell ⟨gr, 4, none⟩ (.slice a3 (k + 1) c3), ?_, ?_⟩
              · simp only [execOp, go_sem]
                simp [go_sem, e73, e71, q4, f4]
              · show Mem wb _ ((if doneSet L 11 11 then (ex fun x : Option Addr × Nat => pts gr 43 [.pointer (some ⟨g, 0, none⟩), .pointer (some ⟨gl, 0, none⟩), .int .i64 (p : Int), .int .i64 (more : Int), .slice x.1 (k + 1) x.2] * row 9 1 x.1 (k + 1) x.2 (pstrs (List.replicate (k + 1) (zrs 1024)))) else pts gr 43 [.pointer (some ⟨g, 0, none⟩), .pointer (some ⟨gl, 0, none⟩), .int .i64 (p : Int), .int .i64 (more : Int), .slice pa k pc] * (if doneSet L 11 8 then emp else row 9 1 pa k pc (pstrs (List.replicate k (zrs 1024))))) * (logB g p .nilIface gl * (devAt T8 g D' * R)) * (emp * R'))
                rw [show doneSet L 11 11 = true from rfl, emp_sep]
                show Mem wb _ ((ex fun x : Option Addr × Nat => pts gr 43 [.pointer (some ⟨g, 0, none⟩), .pointer (some ⟨gl, 0, none⟩), .int .i64 (p : Int), .int .i64 (more : Int), .slice x.1 (k + 1) x.2] * row 9 1 x.1 (k + 1) x.2 (pstrs (List.replicate (k + 1) (zrs 1024)))) * (logB g p .nilIface gl * (devAt T8 g D' * R)) * R')
                have h9 : Mem wb (w.setCell ⟨gr, 4, none⟩ (.slice a3 (k + 1) c3)) ((ex fun x : Option Addr × Nat => pts gr 43 [.pointer (some ⟨g, 0, none⟩), .pointer (some ⟨gl, 0, none⟩), .int .i64 (p : Int), .int .i64 (more : Int), .slice x.1 (k + 1) x.2] * row 9 1 x.1 (k + 1) x.2 (pstrs (List.replicate (k + 1) (zrs 1024)))) * ((logB g p .nilIface gl * (devAt T8 g D' * R)) * R')) := Mem.exl.2 ⟨(a3, c3), hs2.eq (by simp only [List.set_cons_zero, List.set_cons_succ]; ac_rfl)⟩
                exact h9.eq (by ac_rfl)
          · intro u w9 hu hm9
            have hm8 : Mem wb w9 ((ex fun x : Option Addr × Nat => pts gr 43 [.pointer (some ⟨g, 0, none⟩), .pointer (some ⟨gl, 0, none⟩), .int .i64 (p : Int), .int .i64 (more : Int), .slice x.1 (k + 1) x.2] * row 9 1 x.1 (k + 1) x.2 (pstrs (List.replicate (k + 1) (zrs 1024)))) * (logB g p .nilIface gl * (devAt T8 g D' * R)) * _) := hm9
            obtain ⟨⟨pa2, pc2⟩, hm7⟩ := Mem.exl.1 (hm8.left)
            have HM7 := hid ((hm7.eq (by ac_rfl) : Mem wb w9 (pts gr 43 [.pointer (some ⟨g, 0, none⟩), .pointer (some ⟨gl, 0, none⟩), .int .i64 (p : Int), .int .i64 (more : Int), .slice pa2 (k + 1) pc2] * (row 9 1 pa2 (k + 1) pc2 (pstrs (List.replicate (k + 1) (zrs 1024))) * (logB g p .nilIface gl * (devAt T8 g D' * R))))))
            simp only [putAll]
            clear hm9 hm8 hm7 hu HM3 q2 hmk3 SI
            go_simp
            go_wp2_with fail
            go_roundw
            case rel => exact ⟨k + 1, pa2, pc2, by omega, by go_num, HM7.out⟩
            case measure => simp [intOf] <;> omega
        · obtain rfl : p = k := by omega
          have HMF : Hid (Mem wb wr (pts gr 43 (roomCells g gl p more pa pc) * (row 9 1 pa p pc (pstrs (List.replicate p (zrs 1024))) * (logB g p .nilIface gl * (devAt T8 g D' * R))))) := hid (HM3.out.eq (by unfold roomCells; ac_rfl))
          have ZI : Hid (D'.img = zrs (512 * (1 + 2 * p)) ++ (List.replicate p (zrs 1024)).flatten ++ zrs (512 * more)) := by
            show _ = _
            rw [Z4.out]
            unfold zrs
            rw [List.flatten_replicate_replicate, List.replicate_append_replicate, List.replicate_append_replicate]
            congr 1
            omega
          clear HM3 hmk3 SI
          go_wp2_with fail
          refine region_mem (by kernel_rfl) (V := fun jv x => match jv with | 0 => x = (.pointer (some ⟨gr, 0, none⟩) : Value) | 1 => x = (.nilIface : Value) | 2 => x = (.bool true : Value) | 3 => x = (.bool true : Value) | 4 => x = (.pointer (some ⟨gl, 0, none⟩) : Value) | 5 => x = (.bool true : Value) | 6 => x = (.bool true : Value) | 7 => x = (.bool true : Value) | 8 => x = (.bool false : Value) | 9 => x = (.bool true : Value) | 10 => x = (.bool true : Value) | 11 => x = (.bool true : Value) | 12 => x = (.pointer (some ⟨gl, 0, none⟩) : Value) | 13 => x = (.int .i64 (p : Int) : Value) | 14 => x = (.pointer (some ⟨gr, 0, none⟩) : Value) | 15 => x = (.pointer (some ⟨gr, 0, none⟩) : Value) | 16 => x = (.pointer (some ⟨gr, 2, none⟩) : Value) | 17 => x = (.int .i64 (p : Int) : Value) | 18 => x = (.bool true : Value) | 19 => x = (.bool true : Value) | 20 => x = (.bool true : Value) | 21 => x = (.pointer (some ⟨gr, 0, none⟩) : Value) | 22 => x = (.bool true : Value) | 23 => x = (.bool true : Value) | 24 => x = (.pointer (some ⟨gr, 0, none⟩) : Value) | 25 => x = (.bool true : Value) | _ => True) (A := (fun _ => (pts gr 43 (roomCells g gl p more pa pc) * (row 9 1 pa p pc (pstrs (List.replicate p (zrs 1024))) * (logB g p .nilIface gl * (devAt T8 g D' * R)))))) (Bs := []) HMF.out (fun _ _ _ => rfl) (show ([] : List Nat).Nodup by decide) (by kernel_rfl) (by kernel_rfl) ?_ ?_
          · refine ⟨?_, ?_, ?_, ?_, ?_, ?_, ?_, ?_, ?_, ?_, ?_, ?_, ?_, ?_, ?_, ?_, ?_, ?_, ?_, ?_, ?_, ?_, ?_, ?_, ?_, ?_, trivial⟩
            · refine Fine2.run trivial _ rfl (fun _ => rfl) rfl rfl (fun L a w R' hw hm hmk hf => ?_)
              have e4 : a.eval (.tmp 4) = (.pointer (some ⟨gr, 0, none⟩) : Value) := (hf 4 (by decide +kernel)).old (by kernel_rfl)
              simp only [Act.eval, Array.getD_eq_getD_getElem?] at e4
              simp [execOp, resolve, invoke, builtin, go_sem, e4]
            · refine Fine2.run trivial _ rfl (fun _ => rfl) rfl rfl (fun L a w R' hw hm hmk hf => ?_)
              have e9 : a.eval (.tmp 9) = (.nilIface : Value) := (hf 9 (by decide +kernel)).old (by kernel_rfl)
              simp only [Act.eval, Array.getD_eq_getD_getElem?] at e9
              simp [execOp, resolve, invoke, builtin, go_sem, e9]
            · refine Fine2.run trivial _ rfl (fun _ => rfl) rfl rfl (fun L a w R' hw hm hmk hf => ?_)
              have e75 : a.eval (.tmp 75) = (.nilIface : Value) := (hf 75 (by decide +kernel)).new 1 (by kernel_rfl) (by kernel_rfl)
              simp only [Act.eval, Array.getD_eq_getD_getElem?] at e75
              simp [execOp, resolve, invoke, builtin, go_sem, e75]
            · refine Fine2.run trivial _ rfl (fun _ => rfl) rfl rfl (fun L a w R' hw hm hmk hf => ?_)
              have e76 : a.eval (.tmp 76) = (.bool true : Value) := (hf 76 (by decide +kernel)).new 2 (by kernel_rfl) (by kernel_rfl)
              simp only [Act.eval, Array.getD_eq_getD_getElem?] at e76
              simp [execOp, resolve, invoke, builtin, go_sem, e76]
            · refine Fine2.run ⟨_, rfl, by kernel_rfl, by kernel_rfl, fun _ h => h⟩ _ rfl (fun _ => rfl) rfl rfl (fun L a w R' hw hm hmk hf => ?_)
              have e7 : a.eval (.tmp 7) = (.pointer (some ⟨gl, 0, none⟩) : Value) := (hf 7 (by decide +kernel)).old (by kernel_rfl)
              simp only [Act.eval, Array.getD_eq_getD_getElem?] at e7
              simp [execOp, resolve, invoke, builtin, go_sem, e7]
            · refine Fine2.run ⟨_, rfl, by kernel_rfl, by kernel_rfl, fun _ h => h⟩ _ rfl (fun _ => rfl) rfl rfl (fun L a w R' hw hm hmk hf => ?_)
              have e78 : a.eval (.tmp 78) = (.pointer (some ⟨gl, 0, none⟩) : Value) := (hf 78 (by decide +kernel)).new 4 (by kernel_rfl) (by kernel_rfl)
              simp only [Act.eval, Array.getD_eq_getD_getElem?] at e78
              simp [execOp, resolve, invoke, builtin, go_sem, e78]
            · refine Fine2.run trivial _ rfl (fun _ => rfl) rfl rfl (fun L a w R' hw hm hmk hf => ?_)
              have e77 : a.eval (.tmp 77) = (.bool true : Value) := (hf 77 (by decide +kernel)).new 3 (by kernel_rfl) (by kernel_rfl)
              have e79 : a.eval (.tmp 79) = (.bool true : Value) := (hf 79 (by decide +kernel)).new 5 (by kernel_rfl) (by kernel_rfl)
              simp only [Act.eval, Array.getD_eq_getD_getElem?] at e77 e79
              simp [execOp, resolve, invoke, builtin, go_sem, e77, e79]
            · refine Fine2.run trivial _ rfl (fun _ => rfl) rfl rfl (fun L a w R' hw hm hmk hf => ?_)
              have e80 : a.eval (.tmp 80) = (.bool true : Value) := (hf 80 (by decide +kernel)).new 6 (by kernel_rfl) (by kernel_rfl)
              simp only [Act.eval, Array.getD_eq_getD_getElem?] at e80
              simp [execOp, resolve, invoke, builtin, go_sem, e80]
            · refine Fine2.run ⟨_, rfl, by kernel_rfl, by kernel_rfl, fun _ h => h⟩ _ rfl (fun _ => rfl) rfl rfl (fun L a w R' hw hm hmk hf => ?_)
              have e8 : a.eval (.tmp 8) = (.bool false : Value) := (hf 8 (by decide +kernel)).old (by kernel_rfl)
              simp only [Act.eval, Array.getD_eq_getD_getElem?] at e8
              simp [execOp, resolve, invoke, builtin, go_sem, e8]
            · refine Fine2.run ⟨_, rfl, by kernel_rfl, by kernel_rfl, fun _ h => h⟩ _ rfl (fun _ => rfl) rfl rfl (fun L a w R' hw hm hmk hf => ?_)
              have e82 : a.eval (.tmp 82) = (.bool false : Value) := (hf 82 (by decide +kernel)).new 8 (by kernel_rfl) (by kernel_rfl)
              simp only [Act.eval, Array.getD_eq_getD_getElem?] at e82
              simp [execOp, resolve, invoke, builtin, go_sem, e82]
            · refine Fine2.run trivial _ rfl (fun _ => rfl) rfl rfl (fun L a w R' hw hm hmk hf => ?_)
              have e81 : a.eval (.tmp 81) = (.bool true : Value) := (hf 81 (by decide +kernel)).new 7 (by kernel_rfl) (by kernel_rfl)
              have e83 : a.eval (.tmp 83) = (.bool true : Value) := (hf 83 (by decide +kernel)).new 9 (by kernel_rfl) (by kernel_rfl)
              simp only [Act.eval, Array.getD_eq_getD_getElem?] at e81 e83
              simp [execOp, resolve, invoke, builtin, go_sem, e81, e83]
            · refine Fine2.run trivial _ rfl (fun _ => rfl) rfl rfl (fun L a w R' hw hm hmk hf => ?_)
              have e84 : a.eval (.tmp 84) = (.bool true : Value) := (hf 84 (by decide +kernel)).new 10 (by kernel_rfl) (by kernel_rfl)
              simp only [Act.eval, Array.getD_eq_getD_getElem?] at e84
              simp [execOp, resolve, invoke, builtin, go_sem, e84]
            · refine Fine2.run ⟨_, rfl, by kernel_rfl, by kernel_rfl, fun _ h => h⟩ _ rfl (fun _ => rfl) rfl rfl (fun L a w R' hw hm hmk hf => ?_)
              have e7 : a.eval (.tmp 7) = (.pointer (some ⟨gl, 0, none⟩) : Value) := (hf 7 (by decide +kernel)).old (by kernel_rfl)
              simp only [Act.eval, Array.getD_eq_getD_getElem?] at e7
              simp [execOp, resolve, invoke, builtin, go_sem, e7]
            · refine Fine2.call ⟨_, rfl, by kernel_rfl, by kernel_rfl, fun _ h => h⟩ rfl 19 #[(.pointer (some ⟨gl, 0, none⟩))] (fun a w hf => ?_) (fun L a w R' hL hw hm hmk hf => ?_)
              · have e86 : a.eval (.tmp 86) = (.pointer (some ⟨gl, 0, none⟩) : Value) := (hf 86 (by decide +kernel)).new 12 (by kernel_rfl) (by kernel_rfl)
                simp only [Act.eval, Array.getD_eq_getD_getElem?] at e86
                simp [execOp, resolve, invoke, go_sem, e86]
              · refine (Pages_any wb w _ g p gl .nilIface (hm.eq (by ac_rfl : _ = logB g p .nilIface gl * (pts gr 43 (roomCells g gl p more pa pc) * (row 9 1 pa p pc (pstrs (List.replicate p (zrs 1024))) * ((devAt T8 g D' * R) * R')))))).mono ?_
                rintro e w' ⟨rfl, rfl⟩
                refine ⟨_, rfl, rfl, ?_⟩
                show Mem wb w ((pts gr 43 (roomCells g gl p more pa pc) * (row 9 1 pa p pc (pstrs (List.replicate p (zrs 1024))) * (logB g p .nilIface gl * (devAt T8 g D' * R)))) * (emp * R'))
                rw [emp_sep]
                exact hm
            · refine Fine2.run ⟨_, rfl, by kernel_rfl, by kernel_rfl, fun _ h => h⟩ _ rfl (fun _ => rfl) rfl rfl (fun L a w R' hw hm hmk hf => ?_)
              have e4 : a.eval (.tmp 4) = (.pointer (some ⟨gr, 0, none⟩) : Value) := (hf 4 (by decide +kernel)).old (by kernel_rfl)
              simp only [Act.eval, Array.getD_eq_getD_getElem?] at e4
              simp [execOp, resolve, invoke, builtin, go_sem, e4]
            · refine Fine2.run ⟨_, rfl, by kernel_rfl, by kernel_rfl, fun _ h => h⟩ _ rfl (fun _ => rfl) rfl rfl (fun L a w R' hw hm hmk hf => ?_)
              have e88 : a.eval (.tmp 88) = (.pointer (some ⟨gr, 0, none⟩) : Value) := (hf 88 (by decide +kernel)).new 14 (by kernel_rfl) (by kernel_rfl)
              simp only [Act.eval, Array.getD_eq_getD_getElem?] at e88
              simp [execOp, resolve, invoke, builtin, go_sem, e88]
            · refine Fine2.run ⟨_, rfl, by kernel_rfl, by kernel_rfl, fun _ h => h⟩ _ rfl (fun _ => rfl) rfl rfl (fun L a w R' hw hm hmk hf => ?_)
              have e89 : a.eval (.tmp 89) = (.pointer (some ⟨gr, 0, none⟩) : Value) := (hf 89 (by decide +kernel)).new 15 (by kernel_rfl) (by kernel_rfl)
              simp only [Act.eval, Array.getD_eq_getD_getElem?] at e89
              simp [execOp, resolve, invoke, builtin, go_sem, e89]
            · refine Fine2.run ⟨_, rfl, by kernel_rfl, by kernel_rfl, fun _ h => h⟩ _ rfl (fun _ => rfl) rfl rfl (fun L a w R' hw hm hmk hf => ?_)
              have e90 : a.eval (.tmp 90) = (.pointer (some ⟨gr, 2, none⟩) : Value) := (hf 90 (by decide +kernel)).new 16 (by kernel_rfl) (by kernel_rfl)
              simp only [Act.eval, Array.getD_eq_getD_getElem?] at e90
              have hbx := hm.left
              have q0 := hbx.cell 2
              simp only [roomCells, List.getElem?_cons_zero, List.getElem?_cons_succ] at q0
              simp [execOp, resolve, invoke, builtin, go_sem, e90, q0]
            · refine Fine2.run ⟨_, rfl, by kernel_rfl, by kernel_rfl, fun _ h => h⟩ _ rfl (fun _ => rfl) rfl rfl (fun L a w R' hw hm hmk hf => ?_)
              have e87 : a.eval (.tmp 87) = (.int .i64 (p : Int) : Value) := (hf 87 (by decide +kernel)).new 13 (by kernel_rfl) (by kernel_rfl)
              have e91 : a.eval (.tmp 91) = (.int .i64 (p : Int) : Value) := (hf 91 (by decide +kernel)).new 17 (by kernel_rfl) (by kernel_rfl)
              simp only [Act.eval, Array.getD_eq_getD_getElem?] at e87 e91
              simp [execOp, resolve, invoke, builtin, go_sem, e87, e91]
            · refine Fine2.run trivial _ rfl (fun _ => rfl) rfl rfl (fun L a w R' hw hm hmk hf => ?_)
              have e85 : a.eval (.tmp 85) = (.bool true : Value) := (hf 85 (by decide +kernel)).new 11 (by kernel_rfl) (by kernel_rfl)
              have e92 : a.eval (.tmp 92) = (.bool true : Value) := (hf 92 (by decide +kernel)).new 18 (by kernel_rfl) (by kernel_rfl)
              simp only [Act.eval, Array.getD_eq_getD_getElem?] at e85 e92
              simp [execOp, resolve, invoke, builtin, go_sem, e85, e92]
            · refine Fine2.run trivial _ rfl (fun _ => rfl) rfl rfl (fun L a w R' hw hm hmk hf => ?_)
              have e93 : a.eval (.tmp 93) = (.bool true : Value) := (hf 93 (by decide +kernel)).new 19 (by kernel_rfl) (by kernel_rfl)
              simp only [Act.eval, Array.getD_eq_getD_getElem?] at e93
              simp [execOp, resolve, invoke, builtin, go_sem, e93]
            · refine Fine2.run ⟨_, rfl, by kernel_rfl, by kernel_rfl, fun _ h => h⟩ _ rfl (fun _ => rfl) rfl rfl (fun L a w R' hw hm hmk hf => ?_)
              have e4 : a.eval (.tmp 4) = (.pointer (some ⟨gr, 0, none⟩) : Value) := (hf 4 (by decide +kernel)).old (by kernel_rfl)
              simp only [Act.eval, Array.getD_eq_getD_getElem?] at e4
              simp [execOp, resolve, invoke, builtin, go_sem, e4]
            · refine Fine2.call ⟨_, rfl, by kernel_rfl, by kernel_rfl, fun _ h => h⟩ rfl 13 #[(.pointer (some ⟨gr, 0, none⟩))] (fun a w hf => ?_) (fun L a w R' hL hw hm hmk hf => ?_)
              · have e95 : a.eval (.tmp 95) = (.pointer (some ⟨gr, 0, none⟩) : Value) := (hf 95 (by decide +kernel)).new 21 (by kernel_rfl) (by kernel_rfl)
                simp only [Act.eval, Array.getD_eq_getD_getElem?] at e95
                simp [execOp, resolve, invoke, go_sem, e95]
              · refine (clean_any wb w (logB g p .nilIface gl * (R * R')) gr g gl p more pc pa (List.replicate p (zrs 1024)) (List.length_replicate) (fun x hx => by rw [List.eq_of_mem_replicate hx]; exact zrs_length _) (by omega) (by omega) D' (hm.eq (by ac_rfl)) Z3.out ZI.out).mono ?_
                rintro e w' ⟨rfl, hm'⟩
                refine ⟨_, rfl, rfl, ?_⟩
                show Mem wb w' ((pts gr 43 (roomCells g gl p more pa pc) * (row 9 1 pa p pc (pstrs (List.replicate p (zrs 1024))) * (logB g p .nilIface gl * (devAt T8 g D' * R)))) * (emp * R'))
                rw [emp_sep]
                exact hm'.eq (by ac_rfl)
            · refine Fine2.run trivial _ rfl (fun _ => rfl) rfl rfl (fun L a w R' hw hm hmk hf => ?_)
              have e94 : a.eval (.tmp 94) = (.bool true : Value) := (hf 94 (by decide +kernel)).new 20 (by kernel_rfl) (by kernel_rfl)
              have e96 : a.eval (.tmp 96) = (.bool true : Value) := (hf 96 (by decide +kernel)).new 22 (by kernel_rfl) (by kernel_rfl)
              simp only [Act.eval, Array.getD_eq_getD_getElem?] at e94 e96
              simp [execOp, resolve, invoke, builtin, go_sem, e94, e96]
            · refine Fine2.run trivial _ rfl (fun _ => rfl) rfl rfl (fun L a w R' hw hm hmk hf => ?_)
              have e74 : a.eval (.tmp 74) = (.pointer (some ⟨gr, 0, none⟩) : Value) := (hf 74 (by decide +kernel)).new 0 (by kernel_rfl) (by kernel_rfl)
              simp only [Act.eval, Array.getD_eq_getD_getElem?] at e74
              simp [execOp, resolve, invoke, builtin, go_sem, e74]
            · refine Fine2.run trivial _ rfl (fun _ => rfl) rfl rfl (fun L a w R' hw hm hmk hf => ?_)
              have e97 : a.eval (.tmp 97) = (.bool true : Value) := (hf 97 (by decide +kernel)).new 23 (by kernel_rfl) (by kernel_rfl)
              simp only [Act.eval, Array.getD_eq_getD_getElem?] at e97
              simp [execOp, resolve, invoke, builtin, go_sem, e97]
          · intro u w9 hu hm9
            have h2 : u 2 = .pointer (some ⟨gr, 0, none⟩) := hu 2 24 rfl
            have h3 : u 3 = .bool true := hu 3 25 rfl
            have HF := hid (hm9.left : Mem wb w9 (pts gr 43 (roomCells g gl p more pa pc) * (row 9 1 pa p pc (pstrs (List.replicate p (zrs 1024))) * (logB g p .nilIface gl * (devAt T8 g D' * R)))))
            simp only [putAll]
            rw [h2, h3]
            clear hm9 hu h2 h3 HMF q2
            go_simp
            go_wp2_with fail
            go_ret2
            exact ⟨gr, g, gl, pa, pc, D', rfl, Z2.out, Z3.out, Z4.out, HF.out⟩
end Go.Proofs.YtpaebopmppbjbaaGreatDoor
