/- The walks of Load, Arm, Write, Flush (package sectors). -/
import Derived.Test.YtpdppacafkdgdaaSec3
set_option linter.unusedVariables false
set_option linter.unusedSimpArgs false
namespace Go.Proofs.Ytpdppacafkdgdaa
open Go Go.RowKit Go.Le

theorem Load_no (w : World) (a : Option Addr) (n c : Nat) (l : List UInt8) (hs : Sl w a n c (byts l)) (hn : ¬ ∃ k, n = k * 512 ∧ 1 ≤ k ∧ k ≤ 4096) :
    Calls Try.prog 30 #[.slice a n c] w fun e w' => e = .returned (.tuple #[.pointer none, .int .i64 83]) ∧ w = w' := by
  have h1 := hs.le
  have h2 := hs.cap
  clear hs
  have hz : n = 0 ∨ (n ≠ 0 ∧ n % 512 ≠ 0) ∨ (n ≠ 0 ∧ n % 512 = 0 ∧ 4096 < n / 512) := by
    by_cases h0 : n = 0
    · exact .inl h0
    · by_cases h1 : n % 512 = 0
      · refine .inr (.inr ⟨h0, h1, ?_⟩)
        by_cases h3 : 4096 < n / 512
        · exact h3
        · exact absurd ⟨n / 512, by omega, by omega, by omega⟩ hn
      · exact .inr (.inl ⟨h0, h1⟩)
  clear hn
  rcases hz with rfl | ⟨h0, h3⟩ | ⟨h0, h3, h4⟩
  · go_enter Try.func30, Try.ntmps30
    go_wp2
    go_ret2
    exact ⟨rfl, rfl⟩
  · have b0 : ((n : Int) == 0) = false := by simpa using h0
    have b1 : ((n : Int) % 512 != 0) = true := by simp; omega
    go_enter Try.func30, Try.ntmps30
    go_wp2
    go_ret2
    exact ⟨rfl, rfl⟩
  · have b0 : ((n : Int) == 0) = false := by simpa using h0
    have b1 : ((n : Int) % 512 != 0) = false := by simp; omega
    have b2 : (4096 : Int) < (n : Int) / 512 := by omega
    go_enter Try.func30, Try.ntmps30
    go_wp2
    go_ret2
    exact ⟨rfl, rfl⟩

theorem Load_any (wb w : World) (R : HP) (h : Mem wb w R) (a : Option Addr) (n c : Nat) (l : List UInt8) (hs : Sl w a n c (byts l)) (hn : ∃ k, n = k * 512 ∧ 1 ≤ k ∧ k ≤ 4096) :
    Calls Try.prog 30 #[.slice a n c] w fun e w' => ∃ g, e = .returned (.tuple #[.pointer (some ⟨g, 0, none⟩), .int .i64 0]) ∧ Mem wb w' (devAt T8 g (Dev.fresh l) * R) := by
  have h1 := hs.le
  have h2 := hs.cap
  have hlen := hs.len
  rw [byts_length] at hlen
  obtain ⟨k, hk, hk1, hk2⟩ := hn
  have b0 : ((n : Int) == 0) = false := by simp; omega
  have b1 : ((n : Int) % 512 != 0) = false := by simp; omega
  have b2 : ¬ (4096 : Int) < (n : Int) / 512 := by omega
  have hmk := run_make_bytes (P := Try.prog) 34 5 Try.underlying34 u8info .i64 .i64 (n : Int) (by omega) (by omega)
  rw [Int.toNat_natCast] at hmk
  have hok := fresh_ok l k (by omega) hk1 hk2
  have hd := (h.alloc (List.replicate n (.int .u8 0)) 5).alloc (devCells (Dev.fresh l) (some ⟨w.heap.size, 0, none⟩) n none 0 none 0 0) 74
  have e6 : (w.alloc (.cells (List.replicate n (Value.int .u8 0)).toArray 5)).heap.size = w.heap.size + 1 := by simp
  rw [e6] at hd
  have hcells : devCells (Dev.fresh l) (some ⟨w.heap.size, 0, none⟩) n none 0 none 0 0 = [.slice (some ⟨w.heap.size, 0, none⟩) n n, .slice none 0 0, .bool false, .int .i64 0, .slice none 0 0, .int .i64 0, .int .i64 0, .int .i64 0] := by
    simp [devCells, Dev.fresh, hlen]
  have HC := hid hcells
  rw [hcells, List.toArray_replicate] at hd
  have HD := hid hd
  have HS := hid hs
  have HL := hid hlen
  have HOK := hid hok
  clear h hs hlen hok hd hcells e6 hk
  go_enter Try.func30, Try.ntmps30
  go_wp2_with ((with_reducible show wpList _ _ _ (Oper.mk (some 29) _ _ _ _ _ :: _) _ _); refine wpList_copy (by rfl) (.tmp 27) (.tmp 28) 34 34 (by rfl) Try.underlying34 u8size (by rfl) (by rfl) HD.out.p1 (by rfl) 0 n (by show _ = min _ _; omega) (fun _ => rfl) (by simp) (HS.out.ext (by repeat (first | exact Fr.refl _ _ _ | assumption | apply Fr.drew | (refine Fr.drewN ?_ _) | (refine Fr.alloc ?_ (by first | omega | (simp; done) | (simp; omega)) _) | (refine Fr.setCell ?_ (by first | (left; simp; done) | (right; simp; done) | (right; simp; omega)) _)))) (byts_oneCell _) ?_; intro w2 hm2)
  go_ret2
  refine ⟨w.heap.size + 1, rfl, ?_⟩
  have e : splice (List.replicate n (Value.int .u8 0)) 0 ((byts l).take n) = byts l := by
    have hb : (byts l).length = n := by rw [byts_length, HL.out]
    simp [splice, ← hb]
  rw [e] at hm2
  refine Mem.devNew (ia := some ⟨w.heap.size, 0, none⟩) (ic := n) HOK.out ?_
  refine (Mem.of_row rfl (rest := []) (by rw [byts_length]; omega) (by rw [HL.out]; exact Nat.le_refl _) (by omega) (by rw [byts_length, HL.out]; simp) ?_).p1
  rw [List.append_nil, HC.out]
  exact hm2

set_option maxHeartbeats 1000000 in
theorem Arm_any (wb w : World) (R : HP) (g : Nat) (D : Dev) (h : Mem wb w (devAt T8 g D * R)) (step : Int) (s1 : -9223372036854775808 ≤ step) (s2 : step ≤ 9223372036854775807)
    (l : Loss) (la : Option Addr) (lc : Nat) (hs : ∀ w', Mem wb w' R → Sl w' la l.keep.length lc (u64s l.keep)) (hl : l.ok) (hkl : l.keep.length ≤ 1000000000) :
    Calls Try.prog 22 #[.pointer (some ⟨g, 0, none⟩), .int .i64 step, .agg #[.slice la l.keep.length lc, .int .i64 l.torn, .int .i64 l.off]] w fun e w' => e = .returned (.int .i64 (D.arm step l).2) ∧ Mem wb w' (devAt T8 g (D.arm step l).1 * R) := by
  have HH := hid h
  obtain ⟨hok, ka, kc, h1⟩ := Mem.devAt.1 h
  obtain ⟨ia, ic, pa, pc, hm⟩ := Mem.dev0.1 h1
  have hmA : ∀ o : Obj, Mem wb (w.alloc o) _ := fun o => hm.alloc' o
  have c2 := (dev_cells hm).2.2.1
  have c2' : ∀ o : Obj, (w.alloc o).cell? _ = _ := fun o => (dev_cells (hmA o)).2.2.1
  have c3' : ∀ o : Obj, (w.alloc o).cell? _ = _ := fun o => (dev_cells (hmA o)).2.2.2.1
  have f3' : ∀ o : Obj, (w.alloc o).frozen? _ = _ := fun o => (dev_free (hmA o)).2.2.2.1
  have HM := hid hm
  have HOK := hid hok
  have HS := hid hs
  have HK := hid hl
  have HC : Hid (D.arm step l = if D.down then (D, 80) else if step < 0 then (D, 4) else ({ D with armed := step, loss := l }, 0)) := rfl
  clear h h1 hok hs hl hm hmA
  generalize D.arm step l = q at *
  cases hd : D.down
  all_goals
    rw [hd] at c2 c2' HC
    have HD := hid hd
    clear hd
  · simp only [Bool.false_eq_true, if_false] at HC
    by_cases hst : step < 0
    · simp only [hst, if_true] at HC
      obtain rfl := HC.out
      go_enter Try.func22, Try.ntmps22
      go_wp2_with fail
      go_ret
      exact ⟨rfl, HH.out.alloc' _⟩
    · simp only [hst, if_false] at HC
      obtain rfl := HC.out
      go_enter Try.func22, Try.ntmps22
      go_wp2_with fail
      have hq := hid ((HM.out.alloc [.slice la l.keep.length lc, .int .i64 l.torn, .int .i64 l.off] 38).p1.setCell 3 (.int .i64 step))
      generalize (w.alloc (Obj.cells #[Value.slice la l.keep.length lc, Value.int IntKind.i64 l.torn, Value.int IntKind.i64 l.off] 38)).setCell { block := g, off := 3 } (Value.int IntKind.i64 step) = w1 at hq ⊢
      have b0 := hq.out.p1.cell 0
      have b1 := hq.out.p1.cell 1
      have b2 := hq.out.p1.cell 2
      simp only [List.getElem?_cons_zero, List.getElem?_cons_succ] at b0 b1 b2
      clear c2 c2' c3' f3'
      go_region_law (first | (go_simp; go_at_call 42; go_loud (refine (Clone_any wb _ _ hq.out.drew la _ lc l.keep (HS.out _ hq.out.drew.right.right.right.right.right) hkl).mono ?_; rintro e w3 ⟨a', c', rfl, hm3⟩; have d0 := hm3.p2.cell 0; have d1 := hm3.p2.cell 1; have d2 := hm3.p2.cell 2; simp only [List.getElem?_cons_zero, List.getElem?_cons_succ] at d0 d1 d2; have x4 := hm3.p1.cell 4; have x5 := hm3.p1.cell 5; have x6 := hm3.p1.cell 6; simp [devCells] at x4 x5 x6; have y4 := hm3.p1.frozen 4; have y5 := hm3.p1.frozen 5; have y6 := hm3.p1.frozen 6; dsimp only)))
      all_goals
        go_wp2
        go_ret
        refine ⟨rfl, Mem.devAt.2 ⟨⟨HOK.out.img, HOK.out.pend, ⟨by show (0 : Int) ≤ step; omega, s2⟩, HK.out.torn, HK.out.off, HK.out.keep, HOK.out.calls⟩, a', c', Mem.dev0.2 ⟨ia, ic, pa, pc, ?_⟩⟩⟩
        have hx := ((hm3.p1.setCell 4 (.slice a' l.keep.length c')).setCell 5 (.int .i64 l.torn)).setCell 6 (.int .i64 l.off)
        have hx2 := hx.p2.right.p4.right.p1.q3
        simp only [devCells, HD.out] at hx2 ⊢
        exact hx2
  · simp only [if_true] at HC
    obtain rfl := HC.out
    go_enter Try.func22, Try.ntmps22
    go_wp2
    go_ret
    exact ⟨rfl, HH.out.alloc' _⟩
end Go.Proofs.Ytpdppacafkdgdaa
