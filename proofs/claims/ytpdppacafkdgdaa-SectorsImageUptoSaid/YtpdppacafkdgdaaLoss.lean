/- SectorsLoss, walked. -/
import Derived.Test.YtpdppacafkdgdaaLossP
import Derived.Deep.CutBlock
import Derived.Deep.DeepCutAuto
set_option linter.unusedVariables false
set_option linter.unusedSimpArgs false
namespace Go.Le
open Go Go.RowKit
theorem run_make_u64 {P : Program} (t e : TypeId) (ht : P.underlying t = some (.slice e)) (hi : (P.info? e).map (fun i => (i.zero, i.size, i.bytes)) = some (some (.int .u64 0), 1, 8)) (kl kc : IntKind) (n : Nat) (hn : n ≤ 1000000000) (w : World) :
    (Instr.makeSlice t (.int kl (n : Int)) (.int kc (n : Int))).run P w = .ok (.slice (some ⟨w.heap.size, 0, none⟩) n n) (w.alloc (.cells (u64s (List.replicate n 0)).toArray e)) := by
  obtain ⟨i, hi1, hz, hs, hb⟩ := info_parts hi
  have h := run_make (P := P) w t e i (.int .u64 0) ht hi1 hz kl kc n n (by omega) (Int.le_refl _) (by rw [hb]; omega) (by omega)
  rw [h, hs, Int.toNat_natCast]
  have e1 : madeCells (Value.int IntKind.u64 0).cells (n * 1) = (u64s (List.replicate n 0)).toArray := by
    rw [Nat.mul_one]
    unfold madeCells u64s
    apply Array.ext'
    apply List.ext_getElem
    · simp
    · intro k h1 h2
      simp [Value.cells, Nat.mod_one]
  rw [e1]
theorem bitKeep_ok (k : Nat) : ∀ x ∈ bitKeep k, x < 18446744073709551616 := by
  intro x hx
  simp only [bitKeep, List.mem_append, List.mem_replicate, List.mem_singleton] at hx
  rcases hx with ⟨_, rfl⟩ | rfl
  · omega
  · exact Nat.pow_lt_pow_right (by omega) (Nat.mod_lt _ (by omega))
theorem fallFrom_length' {D : Dev} (h : D.ok) (l : Loss) : (D.fall l).img.length = D.img.length := fallFrom_length l 0 D.img D.pend h.pend
theorem loss_mem0 {w wr : World} {A : HP} (h : Mem w wr A) (t1 t2 t3 : TypeId) (x y a b : Value) : Mem w ((wr.alloc (.cells #[.slice none 0 0, x, y] t1)).alloc (.cells #[a, b] t2)) (pts wr.heap.size t1 [.slice none 0 0, x, y] * (pts (wr.heap.size + 1) t2 [a, b] * (row t3 1 none 0 0 (u64s []) * A))) := by
  have h1 := (h.alloc [.slice none 0 0, x, y] t1).alloc [a, b] t2
  have hz : (wr.alloc (.cells #[.slice none 0 0, x, y] t1)).heap.size = wr.heap.size + 1 := by simp
  rw [hz] at h1
  exact (Mem.row_none.2 ⟨rfl, rfl, rfl, h1.p1⟩ : Mem _ _ (row t3 1 none 0 0 (u64s []) * _)).q2
theorem loss_mem1 {w wr : World} {A : HP} (h : Mem w wr A) (t1 t2 t3 : TypeId) (x y a b : Value) (l : List Nat) (n : Nat) (hl : l.length = n) (hn : n ≤ 1000) : Mem w (((wr.alloc (.cells #[.slice (some ⟨wr.heap.size + 1 + 1, 0, none⟩) n n, x, y] t1)).alloc (.cells #[a, b] t2)).alloc (.cells (u64s l).toArray t3))
    (pts wr.heap.size t1 [.slice (some ⟨wr.heap.size + 1 + 1, 0, none⟩) n n, x, y] * (pts (wr.heap.size + 1) t2 [a, b] * (row t3 1 (some ⟨wr.heap.size + 1 + 1, 0, none⟩) n n (u64s l) * A))) := by
  have h1 := ((h.alloc [.slice (some ⟨wr.heap.size + 1 + 1, 0, none⟩) n n, x, y] t1).alloc [a, b] t2).alloc (u64s l) t3
  have hz : (wr.alloc (.cells #[.slice (some ⟨wr.heap.size + 1 + 1, 0, none⟩) n n, x, y] t1)).heap.size = wr.heap.size + 1 := by simp
  have hz2 : ((wr.alloc (.cells #[.slice (some ⟨wr.heap.size + 1 + 1, 0, none⟩) n n, x, y] t1)).alloc (.cells #[a, b] t2)).heap.size = wr.heap.size + 1 + 1 := by simp
  rw [hz, hz2] at h1
  have hu : (u64s l).length = n := by simp [u64s, hl]
  have h2 : Mem _ _ (row t3 1 (some ⟨wr.heap.size + 1 + 1, 0, none⟩) n n (u64s l) * _) := Mem.of_row (rest := []) rfl (by omega) (Nat.le_refl _) (by omega) (by simp; omega) (by rw [List.append_nil]; exact h1)
  exact h2.p2.p2.q2.eq (by ac_rfl)
theorem loss_ways (t M K : Nat) (N : Int) (ht : t < 4) (hM : 1 ≤ M) : (((t : Int) == 1) = false ∧ ((t : Int) == 2) = false ∧ ((t : Int) == 3) = false ∧ t = 0) ∨
              (((t : Int) == 1) = true ∧ ((t : Int) == 3) = false ∧ (M ≤ 1 ∧ (M - 1) % 2 = 0 ∧ ¬ (1 : Int) < (M : Int)) ∧ t = 1) ∨
              (((t : Int) == 1) = true ∧ ((t : Int) == 3) = false ∧ (1 < M ∧ (M - 1) % 2 = 0 ∧ M % 2 = 1) ∧ t = 1) ∨
              (((t : Int) == 1) = true ∧ ((t : Int) == 3) = false ∧ (1 < M ∧ (M - 1) % 2 = 1 ∧ M % 2 = 0) ∧ t = 1) ∨
              (((t : Int) == 1) = false ∧ ((t : Int) == 2) = true ∧ ((t : Int) == 3) = false ∧ K % 2 = 0 ∧ t = 2) ∨
              (((t : Int) == 1) = false ∧ ((t : Int) == 2) = true ∧ ((t : Int) == 3) = false ∧ K % 2 = 1 ∧ t = 2) ∨
              (((t : Int) == 1) = false ∧ ((t : Int) == 2) = false ∧ ((t : Int) == 3) = true ∧ N ≤ 0 ∧ t = 3) ∨
              (((t : Int) == 1) = false ∧ ((t : Int) == 2) = false ∧ ((t : Int) == 3) = true ∧ 0 < N ∧ t = 3) := by
  have h : t = 0 ∨ t = 1 ∨ t = 2 ∨ t = 3 := by omega
  rcases h with rfl | rfl | rfl | rfl
  · exact .inl ⟨rfl, rfl, rfl, rfl⟩
  · by_cases h1 : M = 1
    · exact .inr (.inl ⟨rfl, rfl, ⟨by omega, by omega, by omega⟩, rfl⟩)
    · by_cases h2 : (M - 1) % 2 = 0
      · exact .inr (.inr (.inl ⟨rfl, rfl, ⟨by omega, h2, by omega⟩, rfl⟩))
      · exact .inr (.inr (.inr (.inl ⟨rfl, rfl, ⟨by omega, by omega, by omega⟩, rfl⟩)))
  · by_cases h1 : K % 2 = 0
    · exact .inr (.inr (.inr (.inr (.inl ⟨rfl, rfl, rfl, h1, rfl⟩))))
    · exact .inr (.inr (.inr (.inr (.inr (.inl ⟨rfl, rfl, rfl, by omega, rfl⟩)))))
  · by_cases h1 : N ≤ 0
    · exact .inr (.inr (.inr (.inr (.inr (.inr (.inl ⟨rfl, rfl, rfl, h1, rfl⟩))))))
    · exact .inr (.inr (.inr (.inr (.inr (.inr (.inr ⟨rfl, rfl, rfl, by omega, rfl⟩))))))
end Go.Le
namespace Go.Proofs.Ytpdppacafkdgdaa
open Go Go.RowKit Go.Le
/-- what stands where the turn's loss is chosen -/
def LossCut (w : World) (gl g M K t : Nat) (c : Value) (wx : World) : Prop := ∃ (l : Loss) (la : Option Addr) (lc : Nat) (a0 a1 : UInt8) (ct : Nat), c = .int .i64 (ct : Int) ∧ ct ≤ 512 ∧ l.ok ∧
  (∀ i < 2048, leftAt l i M = expB ((t : Int) == 3) a0 a1 K ct i) ∧
  Mem w wx (pts gl 38 [.slice la l.keep.length lc, .int .i64 l.torn, .int .i64 l.off] * (pts (gl + 1) 5 [byt a0, byt a1] * (row 39 1 la l.keep.length lc (u64s l.keep) * (lifeAt T8 32 9 g { newLife with d := devW M } * emp))))

set_option maxRecDepth 20000 in
theorem bit_any (wb w : World) (R : HP) (h : Mem wb w R) (k : Nat) (hk : k ≤ 1000000) :
    Calls Try.prog 14 #[.int .i64 (k : Int)] w fun e w' => ∃ a c, e = .returned (.agg #[.slice a (bitKeep k).length c, .int .i64 (-1), .int .i64 0]) ∧ Mem wb w' (row 39 1 a (bitKeep k).length c (u64s (bitKeep k)) * R) := by
  have hmk := run_make_u64 (P := Try.prog) 36 39 Try.underlying36 u64info .i64 .i64 (k / 64 + 1) (by omega)
  have e1 : ((k / 64 + 1 : Nat) : Int) = (k : Int) / 64 + 1 := by omega
  rw [e1] at hmk
  obtain ⟨q, hq⟩ : ∃ q, q = k / 64 := ⟨_, rfl⟩
  obtain ⟨r, hr⟩ : ∃ r, r = k % 64 := ⟨_, rfl⟩
  have hqi : (k : Int) / 64 = (q : Int) := by omega
  have hri : (k : Int) % 64 = (r : Int) := by omega
  have hr64 : r < 64 := by omega
  have hbl : Hid (bitKeep k = List.replicate q 0 ++ [2 ^ r]) := by show _ = _; rw [hq, hr]; rfl
  rw [← hq] at hmk
  obtain ⟨Z, hZ⟩ : ∃ Z, Z = u64s (List.replicate (q + 1) 0) := ⟨_, rfl⟩
  rw [← hZ, hqi] at hmk
  have hzq : Z[q]? = some (.int .u64 0) := by rw [hZ]; simp [u64s]
  have hw : IntKind.u64.wrap (2 ^ r) = ((2 ^ r : Nat) : Int) := by
    have h1 : 2 ^ r < 2 ^ 64 := Nat.pow_lt_pow_right (by omega) hr64
    have h2 : ((2 : Int) ^ r) = ((2 ^ r : Nat) : Int) := by simp
    rw [h2]
    generalize 2 ^ r = x at *
    simp [IntKind.wrap, IntKind.bits, IntKind.signed]
    omega
  have HZ := hid hZ
  have H := hid h
  clear hq hr e1 hZ h
  go_enter Try.func14, Try.ntmps14
  go_wp2_with fail
  have hl : (bitKeep k).length = q + 1 := by rw [hbl.out]; simp
  have hk2 : Z.set q (.int .u64 (2 ^ r)) = u64s (bitKeep k) := by
    rw [HZ.out, hbl.out, List.replicate_succ']
    simp [u64s, List.set_append]
  refine bodyPost_ret (v := .agg #[.slice (some ⟨w.heap.size + 1, 0, none⟩) (q + 1) (q + 1), .int .i64 (-1), .int .i64 0]) (by simp [results, Try.results14, go_sem]) rfl ?_
  rw [hl, hk2]
  refine ⟨_, _, rfl, ?_⟩
  have h2 := (H.out.alloc [.slice (some ⟨w.heap.size + 1, 0, none⟩) (q + 1) (q + 1), .int .i64 (-1), .int .i64 0] 38).alloc (u64s (bitKeep k)) 39
  have hz : (w.alloc (.cells #[.slice (some ⟨w.heap.size + 1, 0, none⟩) (q + 1) (q + 1), .int .i64 (-1), .int .i64 0] 38)).heap.size = w.heap.size + 1 := by simp
  rw [hz] at h2
  have hl2 : (u64s (bitKeep k)).length = q + 1 := by simp [u64s, hl]
  exact Mem.of_row (rest := []) rfl (by rw [hl2]; omega) (Nat.le_refl _) (by omega) (by rw [hl2]; simp) (by rw [List.append_nil]; exact h2.p1.right.eq (by rfl))

set_option maxRecDepth 20000 in
set_option maxHeartbeats 8000000 in
theorem loss_any (w : World) (m0 k0 n0 : Int) (m1 : -9223372036854775808 ≤ m0) (m2 : m0 ≤ 9223372036854775807) (k1 : -9223372036854775808 ≤ k0) (k2 : k0 ≤ 9223372036854775807) (n1 : -9223372036854775808 ≤ n0) (n2 : n0 ≤ 9223372036854775807) :
    Calls Try.prog 3 #[.int .i64 m0, .int .i64 k0, .int .i64 n0] w fun e w' => e = .returned (.bool true) ∧ Fr w.heap.size [] w w' := by
  obtain ⟨M, hM⟩ : ∃ M : Nat, 1 + m0 % 100 = (M : Int) := ⟨(1 + m0 % 100).toNat, by omega⟩
  have hM1 : 1 ≤ M := by omega
  have hM2 : M ≤ 100 := by omega
  obtain ⟨K, hK⟩ : ∃ K : Nat, k0 % (M : Int) = (K : Int) := ⟨(k0 % (M : Int)).toNat, by have := Int.emod_nonneg k0 (show (M : Int) ≠ 0 by omega); omega⟩
  have hKM : K < M := by have := Int.emod_lt_of_pos k0 (show (0 : Int) < (M : Int) by omega); omega
  obtain ⟨N, hN⟩ : ∃ N : Int, N = n0 % 514 - 1 := ⟨_, rfl⟩
  have hN1 : -1 ≤ N := by omega
  have hN2 : N ≤ 512 := by omega
  have P1 := hid (pick_any w m0 100 (by omega) (by omega) m1 m2)
  have P2 := hid (pick_any w k0 M (by omega) (by omega) k1 k2)
  have P3 := hid (pick_any w n0 514 (by omega) (by omega) n1 n2)
  have e1 : m0 % 100 = (M : Int) - 1 := by omega
  have e3 : n0 % 514 = N + 1 := by omega
  rw [e1] at P1
  rw [hK] at P2
  rw [e3] at P3
  clear hM hK hN e1 e3
  go_enter Try.func3, Try.ntmps3
  go_wp2_with fail
  refine P1.out.mono ?_
  rintro e w' ⟨rfl, rfl⟩
  dsimp only
  have e2 : (1 : Int) + ((M : Int) - 1) = (M : Int) := by omega
  go_wp2_with fail
  clear e2
  refine P2.out.mono ?_
  rintro e w' ⟨rfl, rfl⟩
  dsimp only
  go_wp2_with fail
  refine P3.out.mono ?_
  rintro e w' ⟨rfl, rfl⟩
  dsimp only
  have e2 : N + 1 - 1 = N := by omega
  go_wp2_with fail
  clear e2
  refine (fixed_any w w emp (Mem.start w)).mono ?_
  rintro e w1 ⟨rfl, hm1⟩
  dsimp only
  have HM1 := hid hm1
  clear hm1
  go_wp2_with fail
  go_loopw [7, 8] (fun okv i wr => ∃ t : Nat, t ≤ 4 ∧ okv = .bool true ∧ i = .int .i64 t ∧ Mem w wr emp) (fun _ i _ => 4 - (intOf i).toNat)
  case atStart => exact ⟨0, by omega, rfl, rfl, HM1.out⟩
  case round =>
    obtain ⟨t, ht, rfl, rfl, hm⟩ := hrel
    clear HM1 P1 P2 P3
    by_cases hlt : t < 4
    · go_wp2_with fail
      refine (born_any w wr emp hm).mono ?_
      rintro e w2 ⟨g, rfl, hm2⟩
      have HM2 := hid hm2
      clear hm2 hm
      dsimp only
      go_wp2_with fail
      go_loopw [7, 11] (fun okv i wx => ∃ j : Nat, j ≤ M ∧ okv = .bool true ∧ i = .int .i64 j ∧ Mem w wx (lifeH g { newLife with d := devW j } * emp)) (fun _ i _ => M - (intOf i).toNat)
      case atStart => exact ⟨0, by omega, rfl, rfl, HM2.out⟩
      case round =>
        obtain ⟨j, hj, rfl, rfl, hm⟩ := hrel
        clear HM2
        by_cases hjm : j < M
        · obtain ⟨gd, va, vc, la, lc, hL⟩ := Mem.lifeAt.1 hm
          have c0 := hL.cell 0
          simp only [List.getElem?_cons_zero] at c0
          have HL := hid hL
          have hx : Hid (((UInt8.ofNat (1 + j)).toNat : Int) = (1 + (j : Int)) % 256) := by show _ = _; rw [UInt8.toNat_ofNat']; omega
          obtain ⟨x, hxx⟩ : ∃ x, x = UInt8.ofNat (1 + j) := ⟨_, rfl⟩
          rw [← hxx] at hx
          obtain ⟨p, hp⟩ : ∃ p, p = j % 2 := ⟨_, rfl⟩
          have hr2 : (j : Int) % 2 = (p : Int) := by omega
          have hp2 : p < 2 := by omega
          have hx2 : (1 + (j : Int)) % 256 = (x.toNat : Int) := hx.out.symm
          have HXX := hid hxx
          have e7 : IntKind.i64.wrap (1 + (j : Int)) = 1 + (j : Int) := by rw [IntWalk.i64_in _ (by omega)]
          have e8 : IntKind.u8.wrap (1 + (j : Int)) = (x.toNat : Int) := by
            rw [← hx2]; simp [IntKind.wrap, IntKind.bits, IntKind.signed]
          have e9 : (j : Int).tmod 2 = (p : Int) := by rw [Int.tmod_eq_emod_of_nonneg (by omega)]; exact hr2
          have hW : Hid ((devW j).write (p : Int) (secFill x []) = (devW (j + 1), 0)) := by show _ = _; rw [hp, HXX.out]; exact devW_write j (by omega)
          have hPL : Hid ((devW j).pend.length ≤ 1000000000) := by show (wr2 j).length ≤ _; rw [wr2_length]; omega
          clear hp
          clear hm hL hx hxx
          -- [[inner
          go_wp2_with fail
          go_region_law (first | (go_simp; go_at_call 13; go_loud ((with_reducible refine (lawSector_any w _ _ HL.out.drew x none 0 0 [] (Sl.nil' _)).mono ?_); rintro e w3 ⟨a3, rfl, -, hm3, -⟩; have c0 := hm3.p1.cell 0; simp only [List.getElem?_cons_zero] at c0; dsimp only)) | (go_simp; go_at_call 12; go_loud ((with_reducible refine (Write_any w _ _ gd (devW j) hm3.p4 hPL.out (p : Int) (by omega) (by omega) _ _ _ (secFill x []) hm3.row_sl).mono ?_); rintro e w4 ⟨rfl, hm4⟩; rw [hW.out] at hm4 ⊢; dsimp only)))
          all_goals
            have HM4 := hid hm4
            clear hm4 hm3 c0
            go_wp2_with fail
            go_roundw
            case rel => exact ⟨j + 1, by omega, by go_num, Mem.lifeAt.2 ⟨gd, va, vc, la, lc, HM4.out.p1.right.q3⟩⟩
            case measure => simp [intOf] <;> omega
          -- ]]inner
        · have hjM : j = M := by omega
          rw [hjM] at hm ⊢
          clear hjM hjm hj
          have HM := hid hm
          clear hm
          have ways := loss_ways t M K N hlt hM1
          have HB := hid (bit_any w)
          go_upto_block 4 with (fail)
          go_cut [15] from 30 to 159 (fun c wx => LossCut w wr.heap.size g M K t c wx)
          case first =>
            rcases ways with ⟨q1, q2, q3, ht0⟩ | ⟨q1, q3, ⟨qm, qm1, qm2⟩, ht0⟩ | ⟨q1, q3, ⟨qm, qm1, qm2⟩, ht0⟩ | ⟨q1, q3, ⟨qm, qm1, qm2⟩, ht0⟩ | ⟨q1, q2, q3, qk, ht0⟩ | ⟨q1, q2, q3, qk, ht0⟩ | ⟨q1, q2, q3, qn, ht0⟩ | ⟨q1, q2, q3, qn, ht0⟩
            all_goals have HT := hid ht0
            all_goals clear ht0
            all_goals go_wp2_with fail
            · go_meet
              exact ⟨⟨[], -1, 0⟩, none, 0, 0, 0, 0, rfl, by omega, ⟨by simp, by simp, by simp⟩, fun i _ => by rw [q3]; exact turn0 M K i, loss_mem0 HM.out _ _ _ _ _ _ _⟩
            · go_meet
              refine ⟨⟨[18446744073709551615, 18446744073709551615], -1, 0⟩, some ⟨wr.heap.size + 1 + 1, 0, none⟩, 2, UInt8.ofNat M, 0, 0, rfl, by omega, ⟨by simp, by simp, by simp⟩, fun i hi => by rw [q3, turn1 M K i hM1 hM2 hi, if_pos qm1, if_neg (by omega), if_neg (by omega)], ?_⟩
              have hA : byt (UInt8.ofNat M) = .int .u8 (M : Int) := by simp only [byt, UInt8.toNat_ofNat']; congr 1; omega
              rw [hA]
              exact loss_mem1 HM.out _ _ _ _ _ _ _ [18446744073709551615, 18446744073709551615] 2 rfl (by omega)
            · go_meet
              refine ⟨⟨[18446744073709551615, 18446744073709551615], -1, 0⟩, some ⟨wr.heap.size + 1 + 1, 0, none⟩, 2, UInt8.ofNat M, UInt8.ofNat (M - 1), 0, rfl, by omega, ⟨by simp, by simp, by simp⟩, fun i hi => by rw [q3, turn1 M K i hM1 hM2 hi, if_pos qm1, if_neg (by omega), if_pos qm], ?_⟩
              have hA : byt (UInt8.ofNat M) = .int .u8 (M : Int) := by simp only [byt, UInt8.toNat_ofNat']; congr 1; omega
              have hB : byt (UInt8.ofNat (M - 1)) = .int .u8 ((M : Int) - 1) := by simp only [byt, UInt8.toNat_ofNat']; congr 1; omega
              rw [hA, hB]
              exact loss_mem1 HM.out _ _ _ _ _ _ _ [18446744073709551615, 18446744073709551615] 2 rfl (by omega)
            · go_meet
              refine ⟨⟨[18446744073709551615, 18446744073709551615], -1, 0⟩, some ⟨wr.heap.size + 1 + 1, 0, none⟩, 2, UInt8.ofNat (M - 1), UInt8.ofNat M, 0, rfl, by omega, ⟨by simp, by simp, by simp⟩, fun i hi => by rw [q3, turn1 M K i hM1 hM2 hi, if_neg (by omega), if_pos qm, if_pos qm1], ?_⟩
              have hA : byt (UInt8.ofNat M) = .int .u8 (M : Int) := by simp only [byt, UInt8.toNat_ofNat']; congr 1; omega
              have hB : byt (UInt8.ofNat (M - 1)) = .int .u8 ((M : Int) - 1) := by simp only [byt, UInt8.toNat_ofNat']; congr 1; omega
              rw [hA, hB]
              exact loss_mem1 HM.out _ _ _ _ _ _ _ [18446744073709551615, 18446744073709551615] 2 rfl (by omega)
            · refine (bit_any w _ _ ((HM.out.alloc [.slice none 0 0, .int .i64 (-1), .int .i64 0] 38).alloc [.int .u8 0, .int .u8 0] 5) K (by omega)).mono ?_
              rintro e w3 ⟨ka, kc, rfl, hm3⟩
              have hz : (wr.alloc (.cells #[.slice none 0 0, .int .i64 (-1), .int .i64 0] 38)).heap.size = wr.heap.size + 1 := by simp
              rw [hz] at hm3
              have z0 := hm3.p1.cell 0
              have z1 := hm3.p1.cell 1
              have y0 := hm3.p2.cell 0
              have y1 := hm3.p2.cell 1
              have y2 := hm3.p2.cell 2
              simp only [List.getElem?_cons_zero, List.getElem?_cons_succ] at z0 z1 y0 y1 y2
              have fz0 := hm3.p1.frozen 0
              have fz1 := hm3.p1.frozen 1
              have fy0 := hm3.p2.frozen 0
              have fy1 := hm3.p2.frozen 1
              have fy2 := hm3.p2.frozen 2
              have hms := hid ((((hm3.p2.setCell 0 (.slice ka (bitKeep K).length kc)).setCell 1 (.int .i64 (-1))).setCell 2 (.int .i64 0)).p2.setCell 0 (.int .u8 (1 + (K : Int))))
              clear hm3 hz
              dsimp only
              go_wp2_with fail
              go_meet
              refine ⟨⟨bitKeep K, -1, 0⟩, ka, kc, UInt8.ofNat (1 + K), 0, 0, rfl, by omega, ⟨by simp, by simp, bitKeep_ok K⟩, fun i hi => by rw [q3, turn2 M K i hKM hM2, if_pos qk, if_neg (by omega)], ?_⟩
              have hA : byt (UInt8.ofNat (1 + K)) = .int .u8 (1 + (K : Int)) := by simp only [byt, UInt8.toNat_ofNat']; congr 1; omega
              rw [hA]
              exact hms.out.p1
            · refine (bit_any w _ _ ((HM.out.alloc [.slice none 0 0, .int .i64 (-1), .int .i64 0] 38).alloc [.int .u8 0, .int .u8 0] 5) K (by omega)).mono ?_
              rintro e w3 ⟨ka, kc, rfl, hm3⟩
              have hz : (wr.alloc (.cells #[.slice none 0 0, .int .i64 (-1), .int .i64 0] 38)).heap.size = wr.heap.size + 1 := by simp
              rw [hz] at hm3
              have z0 := hm3.p1.cell 0
              have z1 := hm3.p1.cell 1
              have y0 := hm3.p2.cell 0
              have y1 := hm3.p2.cell 1
              have y2 := hm3.p2.cell 2
              simp only [List.getElem?_cons_zero, List.getElem?_cons_succ] at z0 z1 y0 y1 y2
              have fz0 := hm3.p1.frozen 0
              have fz1 := hm3.p1.frozen 1
              have fy0 := hm3.p2.frozen 0
              have fy1 := hm3.p2.frozen 1
              have fy2 := hm3.p2.frozen 2
              have hms := hid ((((hm3.p2.setCell 0 (.slice ka (bitKeep K).length kc)).setCell 1 (.int .i64 (-1))).setCell 2 (.int .i64 0)).p2.setCell 1 (.int .u8 (1 + (K : Int))))
              clear hm3 hz
              dsimp only
              go_wp2_with fail
              go_meet
              refine ⟨⟨bitKeep K, -1, 0⟩, ka, kc, 0, UInt8.ofNat (1 + K), 0, rfl, by omega, ⟨by simp, by simp, bitKeep_ok K⟩, fun i hi => by rw [q3, turn2 M K i hKM hM2, if_neg (by omega), if_pos qk], ?_⟩
              have hA : byt (UInt8.ofNat (1 + K)) = .int .u8 (1 + (K : Int)) := by simp only [byt, UInt8.toNat_ofNat']; congr 1; omega
              rw [hA]
              exact hms.out.p1
            · go_meet
              exact ⟨⟨[], K, N⟩, none, 0, 0, 0, 0, rfl, by omega, ⟨by simp; omega, by simp; omega, by simp⟩, fun i _ => by rw [q3, turn3 M K i N hKM, show (min (max N 0) 512).toNat = 0 by omega], loss_mem0 HM.out _ _ _ _ _ _ _⟩
            · go_meet
              refine ⟨⟨[], K, N⟩, none, 0, 0, 0, N.toNat, ?_, by omega, ⟨by simp; omega, by simp; omega, by simp⟩, fun i _ => by rw [q3, turn3 M K i N hKM, show (min (max N 0) 512).toNat = N.toNat by omega], loss_mem0 HM.out _ _ _ _ _ _ _⟩
              congr 1; omega
          case rest =>
            obtain ⟨l, la, lc, a0, a1, ct, rfl, hct, hlok, hval, hX⟩ := hcut
            obtain ⟨gd, va, vc, va2, lc2, hL⟩ := Mem.lifeAt.1 hX.p3
            have c0 := hL.cell 0
            have d0 := hL.p4.cell 0
            have d1 := hL.p4.cell 1
            have d2 := hL.p4.cell 2
            simp only [List.getElem?_cons_zero, List.getElem?_cons_succ] at c0 d0 d1 d2
            have HL := hid hL
            have HVAL := hid hval
            have HLOK := hid hlok
            have hcr : Hid ((devW M).crash l = ((devW M).fall l, 0)) := rfl
            have hPL : Hid ((devW M).pend.length ≤ 4294967296) := by show (wr2 M).length ≤ _; rw [wr2_length]; omega
            clear hX hL hval hlok ways HM
            go_wp2_with fail
            go_region_law (first | (go_simp; go_at_call 15; go_loud ((with_reducible refine (Crash_any w _ _ gd (devW M) HL.out.p3.drew hPL.out l la lc (fun w' h => h.right.right.right.right.right.row_sl) HLOK.out).mono ?_); rintro e w4 ⟨rfl, hm4⟩; rw [hcr.out] at hm4 ⊢; dsimp only)))
            all_goals
              have e0 := hm4.p1.cell 0
              simp only [List.getElem?_cons_zero] at e0
              have w0 := hm4.p5.cell 0
              have w1 := hm4.p5.cell 1
              simp only [List.getElem?_cons_zero, List.getElem?_cons_succ] at w0 w1
              obtain ⟨hok, ka, kc, h5⟩ := Mem.devAt.1 hm4
              have HIM := hid (Image_any w w4 _ gd _ ka _ kc h5 hok)
              have hil : ((devW M).fall l).img.length = 2048 := by rw [fallFrom_length' (devW_ok M (by omega)) l]; simp [devW, Dev.fresh, zrs_length]
              rw [hil] at HIM
              have HM4 := hid h5
              have HIL := hid hil
              clear hm4 hok h5 hil c0 d0 d1 d2
              go_wp2_with fail
              refine HIM.out.mono ?_
              rintro e w5 ⟨ba, bc, rfl, hm5⟩
              have hsl := hm5.row_sl
              obtain ⟨gi, rest, rfl, -⟩ := hm5.row_at (by omega)
              have HF5 := hid hm5.base
              have W0 := hm5.right.right.right.p4.cell 0
              have W1 := hm5.right.right.right.p4.cell 1
              have HM5 := hid hm5
              simp only [List.getElem?_cons_zero, List.getElem?_cons_succ, byt] at W0 W1
              have hbc := hsl.le
              have hbc2 := hsl.cap
              have hx8 := a0.toNat_lt
              have hx9 := a1.toNat_lt
              have HAT : Hid (∀ i, i < 2048 → w5.cell? ⟨gi, i, none⟩ = some (byt (expB ((t : Int) == 3) a0 a1 K ct i))) := by
                intro i hi
                have h1 := loss_at l M i (by omega) hi
                rw [HVAL.out i hi, hcr.out] at h1
                have h2 := hsl.cell i hi _ rfl
                rw [Nat.zero_add] at h2
                rw [h2, byts, List.getElem?_map, h1]
                rfl
              clear hm5 hsl e0 w0 w1 rest HM4 HL HLOK HVAL HIL HIM
              obtain ⟨y, hy⟩ : ∃ y, y = UInt8.ofNat (1 + K) := ⟨_, rfl⟩
              have hyi : (1 + (K : Int)) % 256 = (y.toNat : Int) := by rw [hy, UInt8.toNat_ofNat']; omega
              have hy8 := y.toNat_lt
              obtain ⟨p, hp⟩ : ∃ p, p = K % 2 := ⟨_, rfl⟩
              have hpi : (K : Int) % 2 = (p : Int) := by omega
              have HY := hid hy
              have HPP := hid hp
              clear hy hp
              dsimp only
              go_wp2_with fail
              go_loop [18] (fun s => ∃ i : Nat, i ≤ 2048 ∧ s = .int .i64 i) (fun s => 2048 - (intOf s).toNat)
              case atStart => exact ⟨0, by omega, rfl⟩
              case round =>
                obtain ⟨i, hi, rfl⟩ := hrel
                by_cases hi2 : i < 2048
                · have hat := HAT.out i hi2
                  obtain ⟨q, hq⟩ : ∃ q, q = i / 512 := ⟨_, rfl⟩
                  obtain ⟨r, hr⟩ : ∃ r, r = i % 512 := ⟨_, rfl⟩
                  have hqi : (i : Int) / 512 = (q : Int) := by omega
                  have hri : (i : Int) % 512 = (r : Int) := by omega
                  unfold expB at hat
                  rw [← hq, ← hr, ← HY.out, ← HPP.out] at hat
                  have wq : (i < 512 ∧ i < 1024 ∧ q = 0 ∧ w5.cell? ⟨wr.heap.size + 1, q, none⟩ = some (.int .u8 (a0.toNat : Int))) ∨ (¬ i < 512 ∧ i < 1024 ∧ q = 1 ∧ w5.cell? ⟨wr.heap.size + 1, q, none⟩ = some (.int .u8 (a1.toNat : Int))) ∨ (¬ i < 512 ∧ ¬ i < 1024) := by
                    by_cases g1 : i < 512
                    · obtain rfl : q = 0 := by omega
                      exact .inl ⟨g1, by omega, rfl, W0⟩
                    · by_cases g2 : i < 1024
                      · obtain rfl : q = 1 := by omega
                        exact .inr (.inl ⟨g1, g2, rfl, W1⟩)
                      · exact .inr (.inr ⟨g1, g2⟩)
                  generalize hb3 : ((t : Int) == 3) = b3 at *
                  have HQ := hid hq
                  have HR := hid hr
                  clear hq hr hi
                  have wb : (b3 = true ∧ ((q : Int) == (p : Int)) = true ∧ (r : Int) < (ct : Int) ∧ r < ct ∧ q = p) ∨ (b3 = true ∧ ((q : Int) == (p : Int)) = true ∧ ¬ (r : Int) < (ct : Int) ∧ ¬ (b3 = true ∧ q = p ∧ r < ct)) ∨ (b3 = true ∧ ((q : Int) == (p : Int)) = false ∧ ¬ (b3 = true ∧ q = p ∧ r < ct)) ∨ (b3 = false ∧ ¬ (b3 = true ∧ q = p ∧ r < ct)) := by
                    cases b3
                    · exact .inr (.inr (.inr ⟨rfl, by simp⟩))
                    · by_cases g1 : q = p
                      · by_cases g2 : r < ct
                        · exact .inl ⟨rfl, by simp; omega, by omega, g2, g1⟩
                        · exact .inr (.inl ⟨rfl, by simp; omega, by omega, by omega⟩)
                      · exact .inr (.inr (.inl ⟨rfl, by simp; omega, by omega⟩))
                  -- [[tail
                  rcases wb with ⟨g1, g2, g3, g4, g5⟩ | ⟨g1, g2, g3, g4⟩ | ⟨g1, g2, g4⟩ | ⟨g1, g4⟩
                  · rw [if_pos ⟨g1, g5, g4⟩] at hat
                    simp only [byt] at hat
                    have HG := hid g5
                    clear g4 g5
                    rcases wq with ⟨z1, z2, z3, z4⟩ | ⟨z1, z2, z3, z4⟩ | ⟨z1, z2⟩
                    all_goals
                      first | clear z1 z3 | clear z1
                      go_wp2_with fail
                      all_goals go_round
                      all_goals first | exact ⟨i + 1, by omega, by go_num⟩ | (simp [intOf]; omega)
                  · rw [if_neg g4] at hat
                    rcases wq with ⟨z1, z2, z3, z4⟩ | ⟨z1, z2, z3, z4⟩ | ⟨z1, z2⟩
                    all_goals
                      first | (rw [if_pos z1] at hat) | (rw [if_neg z1, if_pos z2] at hat) | (rw [if_neg z1, if_neg z2] at hat)
                      simp only [byt] at hat
                      have HG := hid g4
                      clear g4
                      first | clear z1 z3 | clear z1
                      go_wp2_with fail
                      all_goals go_round
                      all_goals first | exact ⟨i + 1, by omega, by go_num⟩ | (simp [intOf]; omega)
                  · rw [if_neg g4] at hat
                    rcases wq with ⟨z1, z2, z3, z4⟩ | ⟨z1, z2, z3, z4⟩ | ⟨z1, z2⟩
                    all_goals
                      first | (rw [if_pos z1] at hat) | (rw [if_neg z1, if_pos z2] at hat) | (rw [if_neg z1, if_neg z2] at hat)
                      simp only [byt] at hat
                      have HG := hid g4
                      clear g4
                      first | clear z1 z3 | clear z1
                      go_wp2_with fail
                      all_goals go_round
                      all_goals first | exact ⟨i + 1, by omega, by go_num⟩ | (simp [intOf]; omega)
                  · rw [if_neg g4] at hat
                    rcases wq with ⟨z1, z2, z3, z4⟩ | ⟨z1, z2, z3, z4⟩ | ⟨z1, z2⟩
                    all_goals
                      first | (rw [if_pos z1] at hat) | (rw [if_neg z1, if_pos z2] at hat) | (rw [if_neg z1, if_neg z2] at hat)
                      simp only [byt] at hat
                      have HG := hid g4
                      clear g4
                      first | clear z1 z3 | clear z1
                      go_wp2_with fail
                      all_goals go_round
                      all_goals first | exact ⟨i + 1, by omega, by go_num⟩ | (simp [intOf]; omega)
                  -- ]]tail
                · obtain rfl : i = 2048 := by omega
                  go_wp2_with fail
                  go_roundw
                  case rel =>
                    exact ⟨t + 1, by omega, rfl, by go_num, HF5.out, _, rfl, fun k e cs h => by cases h⟩
                  case measure => simp [intOf] <;> omega
    · obtain rfl : t = 4 := by omega
      go_wp2_with fail
      go_ret
      exact ⟨rfl, hm.base⟩
end Go.Proofs.Ytpdppacafkdgdaa
