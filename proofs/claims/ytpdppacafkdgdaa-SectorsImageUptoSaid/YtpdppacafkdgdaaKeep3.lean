/- The walks of twin and of life's fell. -/
import Derived.Test.YtpdppacafkdgdaaKeep2
import Derived.Test.YtpdppacafkdgdaaLoss
set_option linter.unusedVariables false
set_option linter.unusedSimpArgs false
namespace Go.Le
open Go Go.RowKit
theorem u64s_length (l : List Nat) : (u64s l).length = l.length := by simp [u64s]
theorem u64s_append (l r : List Nat) : u64s (l ++ r) = u64s l ++ u64s r := by simp [u64s]
theorem twin_set (l : List Nat) (k m : Nat) (h : k < l.length) : (u64s (l.take k ++ List.replicate (m + 1) 0)).set k (.int .u64 ((l[k] : Nat) : Int)) = u64s (l.take (k + 1) ++ List.replicate m 0) := by
  rw [List.take_succ_eq_append_getElem h, u64s_append, u64s_append, u64s_append, List.set_append_right _ _ (by rw [u64s_length, List.length_take]; omega)]
  have e : k - (u64s (l.take k)).length = 0 := by rw [u64s_length, List.length_take]; omega
  rw [e, List.replicate_succ]
  simp [u64s]
end Go.Le
namespace Go.Proofs.Ytpdppacafkdgdaa
open Go Go.RowKit Go.Le

set_option maxRecDepth 20000 in
set_option maxHeartbeats 1000000 in
theorem twin_any (wb w : World) (R : HP) (h : Mem wb w R) (l : Loss) (la : Option Addr) (lc : Nat) (hs : ∀ w', Mem wb w' R → Sl w' la l.keep.length lc (u64s l.keep)) (hn : l.keep.length ≤ 1048576) :
    Calls Try.prog 23 #[.agg #[.slice la l.keep.length lc, .int .i64 l.torn, .int .i64 l.off]] w fun e w' => ∃ gk, e = .returned (.agg #[.slice (some ⟨gk, 0, none⟩) l.keep.length (l.keep.length + 2), .int .i64 l.torn, .int .i64 l.off]) ∧
      Mem wb w' (pts gk 39 (u64s l.keep ++ [.int .u64 0, .int .u64 0]) * R) := by
  obtain ⟨n, hln⟩ : ∃ n, n = l.keep.length := ⟨_, rfl⟩
  have hmk := run_make_u64 (P := Try.prog) 36 39 Try.underlying36 u64info .i64 .i64 (n + 2) (by omega)
  have e1 : ((n + 2 : Nat) : Int) = (n : Int) + 2 := by omega
  rw [e1] at hmk
  obtain ⟨Z, hZ⟩ : ∃ Z, Z = u64s (List.replicate (n + 2) 0) := ⟨_, rfl⟩
  rw [← hZ] at hmk
  have hm3 := (((h.alloc [.slice la n lc, .int .i64 l.torn, .int .i64 l.off] 38).alloc [.slice none 0 0, .int .i64 0, .int .i64 0] 38).alloc Z 39)
  have z1 : (w.alloc (.cells #[.slice la n lc, .int .i64 l.torn, .int .i64 l.off] 38)).heap.size = w.heap.size + 1 := by simp
  have z2 : ((w.alloc (.cells #[.slice la n lc, .int .i64 l.torn, .int .i64 l.off] 38)).alloc (.cells #[.slice none 0 0, .int .i64 0, .int .i64 0] 38)).heap.size = w.heap.size + 1 + 1 := by simp
  rw [z1, z2] at hm3
  have H3 := hid hm3
  have HS := hid hs
  have hsl := hs w h
  have hlc := hsl.le
  have hlc2 := hsl.cap
  rw [← hln] at hlc hn ⊢
  have HLN := hid hln
  have HZ := hid hZ
  clear h hs hsl e1 hm3 z1 z2 hln hZ
  go_enter Try.func23, Try.ntmps23
  go_wp2_with fail
  go_loopw [4] (fun i wr => ∃ k : Nat, k ≤ n ∧ i = .int .i64 k ∧ Mem wb wr (pts (w.heap.size + 1 + 1) 39 (u64s (l.keep.take k ++ List.replicate (n + 2 - k) 0)) * (pts (w.heap.size + 1) 38 [.slice none 0 0, .int .i64 0, .int .i64 0] * (pts w.heap.size 38 [.slice la n lc, .int .i64 l.torn, .int .i64 l.off] * R)))) (fun i _ => n - (intOf i).toNat)
  case atStart => exact ⟨0, by omega, rfl, by have := H3.out; have e : Z = u64s (l.keep.take 0 ++ List.replicate (n + 2 - 0) 0) := HZ.out; rw [← e]; exact this⟩
  case round =>
    obtain ⟨k, hk, rfl, hm⟩ := hrel
    have b0 := hm.p2.cell 0
    have b1 := hm.p2.cell 1
    have b2 := hm.p2.cell 2
    have d0 := hm.p1.cell 0
    have d1 := hm.p1.cell 1
    have d2 := hm.p1.cell 2
    have f0 := hm.p2.frozen 0
    have g0 := hm.p1.frozen 0
    have g1 := hm.p1.frozen 1
    have g2 := hm.p1.frozen 2
    simp only [List.getElem?_cons_zero, List.getElem?_cons_succ] at b0 b1 b2 d0 d1 d2
    by_cases hlt : k < n
    · have hsl := HS.out wr hm.right.right.right
      rw [← HLN.out] at hsl
      obtain ⟨bb, oo, rfl⟩ := hsl.addr (by omega)
      have hc := hsl.at k hlt
      have hkl : k < l.keep.length := by rw [← HLN.out]; exact hlt
      simp only [u64s, List.getElem_map] at hc
      have hset := twin_set l.keep k (n + 2 - k - 1) hkl
      have e9 : n + 2 - k - 1 + 1 = n + 2 - k := by omega
      have e10 : n + 2 - (k + 1) = n + 2 - k - 1 := by omega
      rw [e9] at hset
      have hcc := hm.cell k
      have hlen9 : k < (u64s (l.keep.take k ++ List.replicate (n + 2 - k) 0)).length := by rw [u64s_length]; simp; omega
      rw [List.getElem?_eq_getElem hlen9] at hcc
      have hfc := hm.frozen k
      have HM := hid (hm.setCell k (.int .u64 ((l.keep[k] : Nat) : Int)))
      rw [hset, ← e10] at HM
      generalize l.keep[k] = x at *
      generalize (u64s (l.keep.take k ++ List.replicate (n + 2 - k) 0))[k]'_ = u0 at hcc
      clear hm hsl e9 e10 hset hlen9 d0 d1 d2 f0 g0 g1 g2
      go_wp2_with fail
      go_roundw
      case rel => exact ⟨k + 1, by omega, by go_num, HM.out⟩
      case measure => simp [intOf] <;> omega
    · obtain rfl : k = n := by omega
      have HM := hid hm
      have kb : (k : Int) ≤ (k : Int) + 2 := by omega
      clear hm
      go_wp2_with fail
      have hres := ((((HM.out.p2.setCell 0 (.slice (some ⟨w.heap.size + 1 + 1, 0, none⟩) k (k + 2))).p2.setCell 0 (.slice (some ⟨w.heap.size + 1 + 1, 0, none⟩) k (k + 2))).setCell 1 (.int .i64 l.torn)).setCell 2 (.int .i64 l.off))
      have x0 := hres.cell 0
      have x1 := hres.cell 1
      have x2 := hres.cell 2
      simp only [List.set_cons_zero, List.set_cons_succ, List.getElem?_cons_zero, List.getElem?_cons_succ] at x0 x1 x2
      refine bodyPost_ret (v := .agg #[.slice (some ⟨w.heap.size + 1 + 1, 0, none⟩) k (k + 2), .int .i64 l.torn, .int .i64 l.off]) (by simp [results, Try.results23, go_sem, x0, x1, x2]) rfl ⟨w.heap.size + 1 + 1, rfl, ?_⟩
      have hr2 := hres.right.right
      rw [List.take_of_length_le (by rw [← HLN.out]; exact Nat.le_refl _), show k + 2 - k = 2 by omega, u64s_append] at hr2
      exact hr2
end Go.Proofs.Ytpdppacafkdgdaa
