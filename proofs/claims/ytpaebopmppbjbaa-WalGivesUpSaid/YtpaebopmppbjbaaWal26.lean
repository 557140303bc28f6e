/- The walks of pick, clean. -/
import Derived.Test.YtpaebopmppbjbaaWalNames
import Derived.Test.YtpaebopmppbjbaaCalm
set_option linter.unusedVariables false
set_option linter.unusedSimpArgs false
namespace Go.Le
open Go Go.RowKit
/-- pages as strings -/
def pstrs (l : List (List UInt8)) : List Value := l.map fun b => .string ⟨b.toArray⟩
theorem pstrs_length (l : List (List UInt8)) : (pstrs l).length = l.length := by simp [pstrs]
theorem pstrs_at (l : List (List UInt8)) (k : Nat) (b : List UInt8) (h : l[k]? = some b) : (pstrs l)[k]? = some (.string ⟨b.toArray⟩) := by simp [pstrs, h]
theorem ba_append (a b : List UInt8) : (⟨a.toArray⟩ : ByteArray) ++ ⟨b.toArray⟩ = ⟨(a ++ b).toArray⟩ := by
  apply ByteArray.ext
  simp
def roomCells (g gl p more : Nat) (pa : Option Addr) (pc : Nat) : List Value := [.pointer (some ⟨g, 0, none⟩), .pointer (some ⟨gl, 0, none⟩), .int .i64 (p : Int), .int .i64 (more : Int), .slice pa p pc]
end Go.Le
namespace Go.Proofs.Ytpaebopmppbjbaa
open Go Go.RowKit Go.Le

theorem mkBytes (N : Nat) (hN : N ≤ 1000000000) (x : Int) (hx : x = (N : Int)) (w : World) : (Instr.makeSlice 37 (.int .i64 x) (.int .i64 x)).run Try.prog w = .ok (.slice (some ⟨w.heap.size, 0, none⟩) N N) (w.alloc (.cells (byts (zrs N)).toArray 5)) := by
  subst hx
  have h1 := run_make_bytes (P := Try.prog) 37 5 Try.underlying37 u8info' .i64 .i64 (N : Int) (by omega) (by omega) w
  rw [Int.toNat_natCast] at h1
  rw [h1, show List.replicate N (Value.int .u8 0) = byts (zrs N) by unfold zrs; rw [byts_zeros]]
theorem cvtBytes {w : World} {a : Option Addr} {n c : Nat} {l : List UInt8} (h : Sl w a n c (byts l)) : (convert 37 9 (.slice a n c)).run Try.prog w = .ok (.string ⟨l.toArray⟩) w :=
  h.str (P := Try.prog) 37 9 5 Try.underlying37 Try.underlying5 Try.underlying9
theorem pick9_any (w : World) (k n : Int) (h1 : 1 ≤ n) (h2 : n ≤ 4611686018427387904) (k1 : -9223372036854775808 ≤ k) (k2 : k ≤ 9223372036854775807) :
    Calls Try.prog 35 #[.int .i64 k, .int .i64 n] w fun e w' => e = .returned (.int .i64 (k % n)) ∧ w = w' := by
  have hn : n ≠ 0 := by omega
  by_cases hk : 0 ≤ k
  · have ht : k.tmod n = k % n := Int.tmod_eq_emod_of_nonneg hk
    have h3 := Int.emod_nonneg k hn
    have h4 := Int.emod_lt_of_pos k (show 0 < n by omega)
    generalize k % n = m at *
    have HT := hid ht
    have b0 : (n == 0) = false := by simpa using hn
    clear hn
    have ht2 := HT.out
    go_enter Try.func35, Try.ntmps35
    go_wp2
    go_ret
    exact ⟨rfl, rfl⟩
  · have ht : k.tmod n = if n ∣ k then 0 else k % n - n := by
      rw [Int.tmod_eq_emod]
      split <;> split <;> omega
    have h3 := Int.emod_nonneg k hn
    have h4 := Int.emod_lt_of_pos k (show 0 < n by omega)
    have b0 : (n == 0) = false := by simpa using hn
    by_cases hd : n ∣ k
    · have h5 : k % n = 0 := Int.emod_eq_zero_of_dvd hd
      rw [if_pos hd] at ht
      have H5 := hid h5
      clear h5 hd hn h3 h4
      go_enter Try.func35, Try.ntmps35
      go_wp2
      go_ret
      exact ⟨by rw [H5.out]; rfl, rfl⟩
    · rw [if_neg hd] at ht
      clear hd hn
      generalize k % n = m at *
      go_enter Try.func35, Try.ntmps35
      go_wp2
      go_ret
      exact ⟨rfl, rfl⟩

theorem Image_dev (wb w : World) (R : HP) (g : Nat) (D : Dev) (h : Mem wb w (devAt T8 g D * R)) :
    Calls Try.prog 15 #[.pointer (some ⟨g, 0, none⟩)] w fun e w' => ∃ v, e = .returned v ∧ Mem wb w' (rowB 5 D.img.length (byts D.img) v * (devAt T8 g D * R)) := by
  obtain ⟨hok, ka, kc, h1⟩ := Mem.devAt.1 h
  refine (Image_any wb w _ g D ka _ kc h1 hok).mono ?_
  rintro e w' ⟨a, c, rfl, hm⟩
  exact ⟨_, rfl, Mem.rowB.2 ⟨a, c, rfl, ((Mem.devAt.2 ⟨hok, ka, kc, hm.p1.q2.eq (by ac_rfl)⟩ : Mem wb w' (devAt T8 g D * (row 5 1 a D.img.length c (byts D.img) * R)))).p1⟩⟩

set_option maxRecDepth 20000 in
set_option maxHeartbeats 4000000 in
theorem clean_any (wb w0 : World) (R : HP) (gr g gl p more pc : Nat) (pa : Option Addr) (L : List (List UInt8)) (hL : L.length = p) (hL2 : ∀ x ∈ L, x.length = 1024) (hp : p ≤ 20) (hmo : more ≤ 3) (D : Dev)
    (h : Mem wb w0 (pts gr 44 (roomCells g gl p more pa pc) * (row 9 1 pa p pc (pstrs L) * (devAt T8 g D * R)))) (hpd : D.pend = []) (himg : D.img = zrs (512 * (1 + 2 * p)) ++ L.flatten ++ zrs (512 * more)) :
    Calls Try.prog 36 #[.pointer (some ⟨gr, 0, none⟩)] w0 fun e w' => e = .returned (.bool true) ∧ Mem wb w' (pts gr 44 (roomCells g gl p more pa pc) * (row 9 1 pa p pc (pstrs L) * (devAt T8 g D * R))) := by
  have HM0 := hid h
  have q2 := h.cell 2
  simp only [roomCells, List.getElem?_cons_zero, List.getElem?_cons_succ] at q2
  have w1 : IntKind.i64.wrap (2 * (p : Int)) = 2 * (p : Int) := IntWalk.i64_in _ (by omega)
  have w2 : IntKind.i64.wrap (1 + 2 * (p : Int)) = 1 + 2 * (p : Int) := IntWalk.i64_in _ (by omega)
  have w3 : IntKind.i64.wrap (512 * (1 + 2 * (p : Int))) = 512 * (1 + 2 * (p : Int)) := IntWalk.i64_in _ (by omega)
  have hmk := mkBytes (512 * (1 + 2 * p)) (by omega) (512 * (1 + 2 * (p : Int))) (by omega)
  have hal := h.alloc (byts (zrs (512 * (1 + 2 * p)))) 5
  have hcv := cvtBytes (hal.blk.1.sl_all (512 * (1 + 2 * p)) (by rw [byts_length]; exact zrs_length _) (by omega))
  have HM1 := hid hal.right
  have hNb : 512 * (1 + 2 * p) ≤ 20992 := by omega
  generalize 512 * (1 + 2 * p) = N at *
  clear h hal HM0
  go_enter Try.func36, Try.ntmps36
  go_wp2_with fail
  clear hmk hcv q2
  go_loopw [4, 5] (fun sv kv wr => ∃ (k : Nat) (acc : List UInt8), k ≤ p ∧ kv = .int .i64 k ∧ sv = .string ⟨acc.toArray⟩ ∧ acc = (L.take k).flatten ∧ acc.length = 1024 * k ∧ Mem wb wr (pts gr 44 (roomCells g gl p more pa pc) * (row 9 1 pa p pc (pstrs L) * (devAt T8 g D * R)))) (fun _ kv _ => p - (intOf kv).toNat)
  case atStart => exact ⟨0, [], by omega, rfl, rfl, rfl, rfl, HM1.out⟩
  case round =>
    obtain ⟨k, acc, hk, rfl, rfl, hac, hal, hm⟩ := hrel
    have HM := hid hm
    have HAC := hid hac
    clear hac
    have q2 := hm.cell 2
    have q4 := hm.cell 4
    simp only [roomCells, List.getElem?_cons_zero, List.getElem?_cons_succ] at q2 q4
    clear HM1
    by_cases hlt : k < p
    · have kn : (k : Int) < (p : Int) := by omega
      have hsl := hm.p1.row_sl
      obtain ⟨bp, op, rfl⟩ := hsl.addr (by omega)
      have c0 := hsl.at k hlt
      obtain ⟨pg, hpg⟩ : ∃ pg, L[k]? = some pg := ⟨L[k]'(by omega), List.getElem?_eq_getElem _⟩
      have e1 : (pstrs L)[k]'(by rw [pstrs_length]; omega) = .string ⟨pg.toArray⟩ := by
        have := pstrs_at L k pg hpg
        rw [List.getElem?_eq_getElem (by rw [pstrs_length]; omega)] at this
        exact Option.some.inj this
      rw [e1] at c0
      have e2 : (L.take (k + 1)).flatten = (L.take k).flatten ++ pg := by
        obtain ⟨h1, h2⟩ := List.getElem?_eq_some_iff.1 hpg
        rw [List.take_succ_eq_append_getElem h1, h2, List.flatten_append]
        simp
      have HE2 := hid e2
      have hap := ba_append acc pg
      have hpl : pg.length = 1024 := hL2 pg (List.mem_of_getElem? hpg)
      have hsz : ¬ 9223372036854775807 < acc.length + pg.length := by omega
      clear hm hsl hpg e1 e2
      go_wp2_with fail
      go_roundw
      case rel => exact ⟨k + 1, acc ++ pg, by omega, by go_num, by first | rfl | rw [hap], by rw [HE2.out, HAC.out], by rw [List.length_append, hal, hpl]; omega, HM.out⟩
      case measure => simp [intOf] <;> omega
    · obtain rfl : p = k := by omega
      have hae : acc = L.flatten := by rw [HAC.out, List.take_of_length_le (by omega)]
      have hdl : D.img = (zrs N ++ acc) ++ zrs (512 * more) := by rw [himg, hae]
      have h1ap := ba_append (zrs N) acc
      have h2ap := ba_append (zrs N ++ acc) (zrs (512 * more))
      rw [← hdl] at h2ap
      have hzl := zrs_length N
      have hzm := zrs_length (512 * more)
      have h1sz : (zrs N).length + acc.length ≤ 9223372036854775807 := by omega
      have h2sz : (zrs N).length + acc.length + (zrs (512 * more)).length ≤ 9223372036854775807 := by omega
      have w5 : IntKind.i64.wrap (512 * (more : Int)) = 512 * (more : Int) := IntWalk.i64_in _ (by omega)
      have hmk2 := mkBytes (512 * more) (by omega) (512 * (more : Int)) (by omega)
      obtain ⟨M, hM⟩ : ∃ M, M = 512 * more := ⟨_, rfl⟩
      rw [← hM] at hmk2 h2ap h2sz
      have kn : ¬ (p : Int) < (p : Int) := by omega
      have HDL := hid hdl
      clear hm hdl himg hae hzl hzm
      go_wp2_with fail
      refine region_mem (by kernel_rfl) (V := fun jv x => match jv with | 0 => x = (.pointer (some ⟨gr, 0, none⟩) : Value) | 1 => x = (.pointer (some ⟨gr, 0, none⟩) : Value) | 2 => x = (.pointer (some ⟨gr, 0, none⟩) : Value) | 3 => x = (.pointer (some ⟨g, 0, none⟩) : Value) | 4 => ∃ a1, x = (.slice a1 0 0 : Value) | 5 => x = (.int .i64 0 : Value) | 6 => x = (.bool true : Value) | 7 => x = (.bool true : Value) | 8 => x = (.pointer (some ⟨gr, 0, none⟩) : Value) | 9 => x = (.pointer (some ⟨gr, 0, none⟩) : Value) | 10 => x = (.pointer (some ⟨gr, 0, none⟩) : Value) | 11 => x = (.pointer (some ⟨g, 0, none⟩) : Value) | 12 => ∃ a3 c3, x = (.slice a3 D.img.length c3 : Value) | 13 => x = (.string ⟨(D.img).toArray⟩ : Value) | 14 => x = (.string ⟨(zrs N).toArray⟩ : Value) | 15 => x = (.string ⟨(acc).toArray⟩ : Value) | 16 => x = (.string ⟨(zrs N ++ acc).toArray⟩ : Value) | 17 => x = (.pointer (some ⟨gr, 0, none⟩) : Value) | 18 => x = (.pointer (some ⟨gr, 0, none⟩) : Value) | 19 => x = (.pointer (some ⟨gr, 3, none⟩) : Value) | 20 => x = (.int .i64 (more : Int) : Value) | 21 => x = (.int .i64 (512 * (more : Int)) : Value) | 22 => ∃ g2, x = (.slice (some ⟨g2, 0, none⟩) M M : Value) | 23 => x = (.string ⟨(zrs M).toArray⟩ : Value) | 24 => x = (.string ⟨(D.img).toArray⟩ : Value) | 25 => x = (.bool true : Value) | 26 => x = (.bool true : Value) | 27 => x = (.bool true : Value) | _ => True) (A := (fun _ => (pts gr 44 (roomCells g gl p more pa pc) * (row 9 1 pa p pc (pstrs L) * (devAt T8 g D * R))))) (Bs := [(12, none, rowB 5 D.img.length (byts D.img)), (22, none, blkB 5 M (byts (zrs M)))]) HM.out (fun _ _ _ => rfl) (show ([12, 22] : List Nat).Nodup by decide) (by kernel_rfl) (by kernel_rfl) ?_ ?_
      · refine ⟨?_, ?_, ?_, ?_, ?_, ?_, ?_, ?_, ?_, ?_, ?_, ?_, ?_, ?_, ?_, ?_, ?_, ?_, ?_, ?_, ?_, ?_, ?_, ?_, ?_, ?_, ?_, ?_, trivial⟩
        · refine Fine2.run trivial _ rfl (fun _ => rfl) rfl rfl (fun K a w R' hw hm hmk hf => ?_)
          have e0 : a.eval (.tmp 0) = (.pointer (some ⟨gr, 0, none⟩) : Value) := (hf 0 (by decide +kernel)).old (by kernel_rfl)
          simp only [Act.eval, Array.getD_eq_getD_getElem?] at e0
          simp [execOp, resolve, invoke, builtin, go_sem, e0]
        · refine Fine2.run trivial _ rfl (fun _ => rfl) rfl rfl (fun K a w R' hw hm hmk hf => ?_)
          have e32 : a.eval (.tmp 32) = (.pointer (some ⟨gr, 0, none⟩) : Value) := (hf 32 (by decide +kernel)).new 0 (by kernel_rfl) (by kernel_rfl)
          simp only [Act.eval, Array.getD_eq_getD_getElem?] at e32
          simp [execOp, resolve, invoke, builtin, go_sem, e32]
        · refine Fine2.run trivial _ rfl (fun _ => rfl) rfl rfl (fun K a w R' hw hm hmk hf => ?_)
          have e33 : a.eval (.tmp 33) = (.pointer (some ⟨gr, 0, none⟩) : Value) := (hf 33 (by decide +kernel)).new 1 (by kernel_rfl) (by kernel_rfl)
          simp only [Act.eval, Array.getD_eq_getD_getElem?] at e33
          simp [execOp, resolve, invoke, builtin, go_sem, e33]
        · refine Fine2.run trivial _ rfl (fun _ => rfl) rfl rfl (fun K a w R' hw hm hmk hf => ?_)
          have e34 : a.eval (.tmp 34) = (.pointer (some ⟨gr, 0, none⟩) : Value) := (hf 34 (by decide +kernel)).new 2 (by kernel_rfl) (by kernel_rfl)
          simp only [Act.eval, Array.getD_eq_getD_getElem?] at e34
          have hbx := hm.left
          have q0 := hbx.cell 0
          simp only [roomCells, List.getElem?_cons_zero, List.getElem?_cons_succ] at q0
          simp [execOp, resolve, invoke, builtin, go_sem, e34, q0]
        · refine Fine2.call trivial rfl 16 #[(.pointer (some ⟨g, 0, none⟩))] (fun a w hf => ?_) (fun K a w R' hL hw hm hmk hf => ?_)
          · have e35 : a.eval (.tmp 35) = (.pointer (some ⟨g, 0, none⟩) : Value) := (hf 35 (by decide +kernel)).new 3 (by kernel_rfl) (by kernel_rfl)
            simp only [Act.eval, Array.getD_eq_getD_getElem?] at e35
            simp [execOp, resolve, invoke, go_sem, e35]
          · refine (Cache_dev wb w _ g D (hm.eq (by ac_rfl) : Mem wb w (devAt T8 g D * (pts gr 44 (roomCells g gl p more pa pc) * (row 9 1 pa p pc (pstrs L) * (R * R'))))) (by rw [hpd]; simp)).mono ?_
            rintro e w' ⟨a1, rfl, hm'⟩
            refine ⟨_, rfl, ⟨a1, by rw [hpd]; rfl⟩, ?_⟩
            show Mem wb w' ((pts gr 44 (roomCells g gl p more pa pc) * (row 9 1 pa p pc (pstrs L) * (devAt T8 g D * R))) * (emp * R'))
            rw [emp_sep]
            exact hm'.right.eq (by ac_rfl)
        · refine Fine2.run trivial _ rfl (fun _ => rfl) rfl rfl (fun K a w R' hw hm hmk hf => ?_)
          obtain ⟨a136, e36⟩ := (hf 36 (by decide +kernel)).new 4 (by kernel_rfl) (by kernel_rfl)
          simp only [Act.eval, Array.getD_eq_getD_getElem?] at e36
          simp [execOp, resolve, invoke, builtin, go_sem, e36]
        · refine Fine2.run trivial _ rfl (fun _ => rfl) rfl rfl (fun K a w R' hw hm hmk hf => ?_)
          have e37 : a.eval (.tmp 37) = (.int .i64 0 : Value) := (hf 37 (by decide +kernel)).new 5 (by kernel_rfl) (by kernel_rfl)
          simp only [Act.eval, Array.getD_eq_getD_getElem?] at e37
          simp [execOp, resolve, invoke, builtin, go_sem, e37]
        · refine Fine2.run trivial _ rfl (fun _ => rfl) rfl rfl (fun K a w R' hw hm hmk hf => ?_)
          have e38 : a.eval (.tmp 38) = (.bool true : Value) := (hf 38 (by decide +kernel)).new 6 (by kernel_rfl) (by kernel_rfl)
          simp only [Act.eval, Array.getD_eq_getD_getElem?] at e38
          simp [execOp, resolve, invoke, builtin, go_sem, e38]
        · refine Fine2.run ⟨_, rfl, by kernel_rfl, by kernel_rfl, fun _ h => h⟩ _ rfl (fun _ => rfl) rfl rfl (fun K a w R' hw hm hmk hf => ?_)
          have e0 : a.eval (.tmp 0) = (.pointer (some ⟨gr, 0, none⟩) : Value) := (hf 0 (by decide +kernel)).old (by kernel_rfl)
          simp only [Act.eval, Array.getD_eq_getD_getElem?] at e0
          simp [execOp, resolve, invoke, builtin, go_sem, e0]
        · refine Fine2.run ⟨_, rfl, by kernel_rfl, by kernel_rfl, fun _ h => h⟩ _ rfl (fun _ => rfl) rfl rfl (fun K a w R' hw hm hmk hf => ?_)
          have e40 : a.eval (.tmp 40) = (.pointer (some ⟨gr, 0, none⟩) : Value) := (hf 40 (by decide +kernel)).new 8 (by kernel_rfl) (by kernel_rfl)
          simp only [Act.eval, Array.getD_eq_getD_getElem?] at e40
          simp [execOp, resolve, invoke, builtin, go_sem, e40]
        · refine Fine2.run ⟨_, rfl, by kernel_rfl, by kernel_rfl, fun _ h => h⟩ _ rfl (fun _ => rfl) rfl rfl (fun K a w R' hw hm hmk hf => ?_)
          have e41 : a.eval (.tmp 41) = (.pointer (some ⟨gr, 0, none⟩) : Value) := (hf 41 (by decide +kernel)).new 9 (by kernel_rfl) (by kernel_rfl)
          simp only [Act.eval, Array.getD_eq_getD_getElem?] at e41
          simp [execOp, resolve, invoke, builtin, go_sem, e41]
        · refine Fine2.run ⟨_, rfl, by kernel_rfl, by kernel_rfl, fun _ h => h⟩ _ rfl (fun _ => rfl) rfl rfl (fun K a w R' hw hm hmk hf => ?_)
          have e42 : a.eval (.tmp 42) = (.pointer (some ⟨gr, 0, none⟩) : Value) := (hf 42 (by decide +kernel)).new 10 (by kernel_rfl) (by kernel_rfl)
          simp only [Act.eval, Array.getD_eq_getD_getElem?] at e42
          have hbx := hm.left
          have q0 := hbx.cell 0
          simp only [roomCells, List.getElem?_cons_zero, List.getElem?_cons_succ] at q0
          simp [execOp, resolve, invoke, builtin, go_sem, e42, q0]
        · refine Fine2.call ⟨_, rfl, by kernel_rfl, by kernel_rfl, fun _ h => h⟩ rfl 15 #[(.pointer (some ⟨g, 0, none⟩))] (fun a w hf => ?_) (fun K a w R' hL hw hm hmk hf => ?_)
          · have e43 : a.eval (.tmp 43) = (.pointer (some ⟨g, 0, none⟩) : Value) := (hf 43 (by decide +kernel)).new 11 (by kernel_rfl) (by kernel_rfl)
            simp only [Act.eval, Array.getD_eq_getD_getElem?] at e43
            simp [execOp, resolve, invoke, go_sem, e43]
          · refine (Image_dev wb w _ g D (hm.eq (by ac_rfl) : Mem wb w (devAt T8 g D * (pts gr 44 (roomCells g gl p more pa pc) * (row 9 1 pa p pc (pstrs L) * (R * R')))))).mono ?_
            rintro e w' ⟨v, rfl, hm'⟩
            obtain ⟨a3, c3, h3, -⟩ := hm'.rowB_sl
            exact ⟨v, rfl, ⟨a3, c3, h3⟩, hm'.eq (by show _ = (pts gr 44 (roomCells g gl p more pa pc) * (row 9 1 pa p pc (pstrs L) * (devAt T8 g D * R))) * (rowB 5 D.img.length (byts D.img) v * R'); ac_rfl)⟩
        · refine Fine2.run ⟨_, rfl, by kernel_rfl, by kernel_rfl, fun _ h => h⟩ _ rfl (fun _ => rfl) rfl rfl (fun K a w R' hw hm hmk hf => ?_)
          obtain ⟨R', rfl⟩ := hmk [true, false] (by kernel_rfl)
          have hm : Mem _ w (_ * (_ * R')) := hm
          obtain ⟨a2, c2, e2, hs⟩ := hm.p1.rowB_sl
          have e44 : a.eval (.tmp 44) = .slice a2 _ c2 := e2
          have hst := cvtBytes hs
          simp only [Act.eval, Array.getD_eq_getD_getElem?] at e44
          simp [execOp, resolve, invoke, builtin, go_sem, e44, hst]
        · refine Fine2.run ⟨_, rfl, by kernel_rfl, by kernel_rfl, fun _ h => h⟩ _ rfl (fun _ => rfl) rfl rfl (fun K a w R' hw hm hmk hf => ?_)
          have e3 : a.eval (.tmp 3) = (.string ⟨(zrs N).toArray⟩ : Value) := (hf 3 (by decide +kernel)).old (by kernel_rfl)
          simp only [Act.eval, Array.getD_eq_getD_getElem?] at e3
          simp [execOp, resolve, invoke, builtin, go_sem, e3]
        · refine Fine2.run ⟨_, rfl, by kernel_rfl, by kernel_rfl, fun _ h => h⟩ _ rfl (fun _ => rfl) rfl rfl (fun K a w R' hw hm hmk hf => ?_)
          have e4 : a.eval (.tmp 4) = (.string ⟨(acc).toArray⟩ : Value) := (hf 4 (by decide +kernel)).old (by kernel_rfl)
          simp only [Act.eval, Array.getD_eq_getD_getElem?] at e4
          simp [execOp, resolve, invoke, builtin, go_sem, e4]
        · refine Fine2.run ⟨_, rfl, by kernel_rfl, by kernel_rfl, fun _ h => h⟩ _ rfl (fun _ => rfl) rfl rfl (fun K a w R' hw hm hmk hf => ?_)
          have e46 : a.eval (.tmp 46) = (.string ⟨(zrs N).toArray⟩ : Value) := (hf 46 (by decide +kernel)).new 14 (by kernel_rfl) (by kernel_rfl)
          have e47 : a.eval (.tmp 47) = (.string ⟨(acc).toArray⟩ : Value) := (hf 47 (by decide +kernel)).new 15 (by kernel_rfl) (by kernel_rfl)
          simp only [Act.eval, Array.getD_eq_getD_getElem?] at e46 e47
          simp [execOp, resolve, invoke, builtin, go_sem, e46, e47, h1sz, h1ap]
        · refine Fine2.run ⟨_, rfl, by kernel_rfl, by kernel_rfl, fun _ h => h⟩ _ rfl (fun _ => rfl) rfl rfl (fun K a w R' hw hm hmk hf => ?_)
          have e0 : a.eval (.tmp 0) = (.pointer (some ⟨gr, 0, none⟩) : Value) := (hf 0 (by decide +kernel)).old (by kernel_rfl)
          simp only [Act.eval, Array.getD_eq_getD_getElem?] at e0
          simp [execOp, resolve, invoke, builtin, go_sem, e0]
        · refine Fine2.run ⟨_, rfl, by kernel_rfl, by kernel_rfl, fun _ h => h⟩ _ rfl (fun _ => rfl) rfl rfl (fun K a w R' hw hm hmk hf => ?_)
          have e49 : a.eval (.tmp 49) = (.pointer (some ⟨gr, 0, none⟩) : Value) := (hf 49 (by decide +kernel)).new 17 (by kernel_rfl) (by kernel_rfl)
          simp only [Act.eval, Array.getD_eq_getD_getElem?] at e49
          simp [execOp, resolve, invoke, builtin, go_sem, e49]
        · refine Fine2.run ⟨_, rfl, by kernel_rfl, by kernel_rfl, fun _ h => h⟩ _ rfl (fun _ => rfl) rfl rfl (fun K a w R' hw hm hmk hf => ?_)
          have e50 : a.eval (.tmp 50) = (.pointer (some ⟨gr, 0, none⟩) : Value) := (hf 50 (by decide +kernel)).new 18 (by kernel_rfl) (by kernel_rfl)
          simp only [Act.eval, Array.getD_eq_getD_getElem?] at e50
          simp [execOp, resolve, invoke, builtin, go_sem, e50]
        · refine Fine2.run ⟨_, rfl, by kernel_rfl, by kernel_rfl, fun _ h => h⟩ _ rfl (fun _ => rfl) rfl rfl (fun K a w R' hw hm hmk hf => ?_)
          have e51 : a.eval (.tmp 51) = (.pointer (some ⟨gr, 3, none⟩) : Value) := (hf 51 (by decide +kernel)).new 19 (by kernel_rfl) (by kernel_rfl)
          simp only [Act.eval, Array.getD_eq_getD_getElem?] at e51
          have hbx := hm.left
          have q0 := hbx.cell 3
          simp only [roomCells, List.getElem?_cons_zero, List.getElem?_cons_succ] at q0
          simp [execOp, resolve, invoke, builtin, go_sem, e51, q0]
        · refine Fine2.run ⟨_, rfl, by kernel_rfl, by kernel_rfl, fun _ h => h⟩ _ rfl (fun _ => rfl) rfl rfl (fun K a w R' hw hm hmk hf => ?_)
          have e52 : a.eval (.tmp 52) = (.int .i64 (more : Int) : Value) := (hf 52 (by decide +kernel)).new 20 (by kernel_rfl) (by kernel_rfl)
          simp only [Act.eval, Array.getD_eq_getD_getElem?] at e52
          simp [execOp, resolve, invoke, builtin, go_sem, e52, w5]
        · refine Fine2.open ⟨_, rfl, by kernel_rfl, by kernel_rfl, fun _ h => h⟩ (fun K a w R' hL hw hm hmk hf => ?_)
          rw [eaten_none rfl, emp_sep] at hm
          have e53 : a.eval (.tmp 53) = (.int .i64 (512 * (more : Int)) : Value) := (hf 53 (by decide +kernel)).new 21 (by kernel_rfl) (by kernel_rfl)
          simp only [Act.eval, Array.getD_eq_getD_getElem?] at e53
          refine ⟨(.slice (some ⟨w.heap.size, 0, none⟩) M M), w.alloc (.cells (byts (zrs M)).toArray 5), ?_, ⟨_, rfl⟩, ?_⟩
          · simp [execOp, resolve, invoke, builtin, go_sem, e53, hmk2]
          · exact (Mem.blkB.2 ⟨_, rfl, hm.alloc (byts (zrs M)) 5⟩ : Mem wb _ (blkB 5 M (byts (zrs M)) _ * _)).p1
        · refine Fine2.run ⟨_, rfl, by kernel_rfl, by kernel_rfl, fun _ h => h⟩ _ rfl (fun _ => rfl) rfl rfl (fun K a w R' hw hm hmk hf => ?_)
          obtain ⟨R', rfl⟩ := hmk [false, true] (by kernel_rfl)
          have hm : Mem _ w (_ * (_ * R')) := hm
          obtain ⟨g2, e2, m2⟩ := Mem.blkB.1 hm.p1
          have e54 : a.eval (.tmp 54) = .slice (some ⟨g2, 0, none⟩) M M := e2
          have hst := cvtBytes (m2.blk.1.sl_all M (by rw [byts_length]; exact zrs_length _) (by omega))
          simp only [Act.eval, Array.getD_eq_getD_getElem?] at e54
          simp [execOp, resolve, invoke, builtin, go_sem, e54, hst]
        · refine Fine2.run ⟨_, rfl, by kernel_rfl, by kernel_rfl, fun _ h => h⟩ _ rfl (fun _ => rfl) rfl rfl (fun K a w R' hw hm hmk hf => ?_)
          have e48 : a.eval (.tmp 48) = (.string ⟨(zrs N ++ acc).toArray⟩ : Value) := (hf 48 (by decide +kernel)).new 16 (by kernel_rfl) (by kernel_rfl)
          have e55 : a.eval (.tmp 55) = (.string ⟨(zrs M).toArray⟩ : Value) := (hf 55 (by decide +kernel)).new 23 (by kernel_rfl) (by kernel_rfl)
          simp only [Act.eval, Array.getD_eq_getD_getElem?] at e48 e55
          simp [execOp, resolve, invoke, builtin, go_sem, e48, e55, h2sz, h2ap]
        · refine Fine2.run ⟨_, rfl, by kernel_rfl, by kernel_rfl, fun _ h => h⟩ _ rfl (fun _ => rfl) rfl rfl (fun K a w R' hw hm hmk hf => ?_)
          have e45 : a.eval (.tmp 45) = (.string ⟨(D.img).toArray⟩ : Value) := (hf 45 (by decide +kernel)).new 13 (by kernel_rfl) (by kernel_rfl)
          have e56 : a.eval (.tmp 56) = (.string ⟨(D.img).toArray⟩ : Value) := (hf 56 (by decide +kernel)).new 24 (by kernel_rfl) (by kernel_rfl)
          simp only [Act.eval, Array.getD_eq_getD_getElem?] at e45 e56
          simp [execOp, resolve, invoke, builtin, go_sem, e45, e56]
        · refine Fine2.run trivial _ rfl (fun _ => rfl) rfl rfl (fun K a w R' hw hm hmk hf => ?_)
          have e39 : a.eval (.tmp 39) = (.bool true : Value) := (hf 39 (by decide +kernel)).new 7 (by kernel_rfl) (by kernel_rfl)
          have e57 : a.eval (.tmp 57) = (.bool true : Value) := (hf 57 (by decide +kernel)).new 25 (by kernel_rfl) (by kernel_rfl)
          simp only [Act.eval, Array.getD_eq_getD_getElem?] at e39 e57
          simp [execOp, resolve, invoke, builtin, go_sem, e39, e57]
        · refine Fine2.run trivial _ rfl (fun _ => rfl) rfl rfl (fun K a w R' hw hm hmk hf => ?_)
          have e58 : a.eval (.tmp 58) = (.bool true : Value) := (hf 58 (by decide +kernel)).new 26 (by kernel_rfl) (by kernel_rfl)
          simp only [Act.eval, Array.getD_eq_getD_getElem?] at e58
          simp [execOp, resolve, invoke, builtin, go_sem, e58]
      · intro u w9 hu hm9
        have hb : u 2 = .bool true := hu 2 27 rfl
        have HF := hid (hm9.left : Mem wb w9 (pts gr 44 (roomCells g gl p more pa pc) * (row 9 1 pa p pc (pstrs L) * (devAt T8 g D * R))))
        simp only [putAll]
        rw [hb]
        clear hm9 hu hb HM h1ap h2ap h1sz h2sz hmk2
        go_simp
        go_wp2_with fail
        go_ret
        exact ⟨rfl, HF.out⟩
end Go.Proofs.Ytpaebopmppbjbaa
