/- The walks of Load, Arm, Write, Flush (package sectors). -/
import Derived.Test.YtpaebopmppbjbaaSec3
set_option linter.unusedVariables false
set_option linter.unusedSimpArgs false
namespace Go.Proofs.Ytpaebopmppbjbaa
open Go Go.RowKit Go.Le

theorem Load_no (w : World) (a : Option Addr) (n c : Nat) (l : List UInt8) (hs : Sl w a n c (byts l)) (hn : ¬ ∃ k, n = k * 512 ∧ 1 ≤ k ∧ k ≤ 4096) :
    Calls Try.prog 14 #[.slice a n c] w fun e w' => e = .returned (.tuple #[.pointer none, .int .i64 83]) ∧ w = w' := by
  have h1 := hs.le
  have h2 := hs.cap
  clear hs
  have hz : n = 0 ∨ (n ≠ 0 ∧ n % 512 ≠ 0) ∨ (n ≠ 0 ∧ n % 512 = 0 ∧ 4096 < n / 512) := by
    by_cases h0 : n = 0
    · exact .inl h0
    · by_cases h1 : n % 512 = 0
      · refine .inr (.inr ⟨h0, h1, ?_⟩)
        by_cases h3 : 4096 < n / 512
        · exact h3
        · exact absurd ⟨n / 512, by omega, by omega, by omega⟩ hn
      · exact .inr (.inl ⟨h0, h1⟩)
  clear hn
  rcases hz with rfl | ⟨h0, h3⟩ | ⟨h0, h3, h4⟩
  · go_enter Try.func14, Try.ntmps14
    go_wp2
    go_ret2
    exact ⟨rfl, rfl⟩
  · have b0 : ((n : Int) == 0) = false := by simpa using h0
    have b1 : ((n : Int) % 512 != 0) = true := by simp; omega
    go_enter Try.func14, Try.ntmps14
    go_wp2
    go_ret2
    exact ⟨rfl, rfl⟩
  · have b0 : ((n : Int) == 0) = false := by simpa using h0
    have b1 : ((n : Int) % 512 != 0) = false := by simp; omega
    have b2 : (4096 : Int) < (n : Int) / 512 := by omega
    go_enter Try.func14, Try.ntmps14
    go_wp2
    go_ret2
    exact ⟨rfl, rfl⟩

theorem Load_any (wb w : World) (R : HP) (h : Mem wb w R) (a : Option Addr) (n c : Nat) (l : List UInt8) (hs : Sl w a n c (byts l)) (hn : ∃ k, n = k * 512 ∧ 1 ≤ k ∧ k ≤ 4096) :
    Calls Try.prog 14 #[.slice a n c] w fun e w' => ∃ g, e = .returned (.tuple #[.pointer (some ⟨g, 0, none⟩), .int .i64 0]) ∧ Mem wb w' (devAt T8 g (Dev.fresh l) * R) := by
  have h1 := hs.le
  have h2 := hs.cap
  have hlen := hs.len
  rw [byts_length] at hlen
  obtain ⟨k, hk, hk1, hk2⟩ := hn
  have b0 : ((n : Int) == 0) = false := by simp; omega
  have b1 : ((n : Int) % 512 != 0) = false := by simp; omega
  have b2 : ¬ (4096 : Int) < (n : Int) / 512 := by omega
  have hmk := run_make_bytes (P := Try.prog) 37 5 Try.underlying37 u8info .i64 .i64 (n : Int) (by omega) (by omega)
  rw [Int.toNat_natCast] at hmk
  have hok := fresh_ok l k (by omega) hk1 hk2
  have hd := (h.alloc (List.replicate n (.int .u8 0)) 5).alloc (devCells (Dev.fresh l) (some ⟨w.heap.size, 0, none⟩) n none 0 none 0 0) 83
  have e6 : (w.alloc (.cells (List.replicate n (Value.int .u8 0)).toArray 5)).heap.size = w.heap.size + 1 := by simp
  rw [e6] at hd
  have hcells : devCells (Dev.fresh l) (some ⟨w.heap.size, 0, none⟩) n none 0 none 0 0 = [.slice (some ⟨w.heap.size, 0, none⟩) n n, .slice none 0 0, .bool false, .int .i64 0, .slice none 0 0, .int .i64 0, .int .i64 0, .int .i64 0] := by
    simp [devCells, Dev.fresh, hlen]
  have HC := hid hcells
  rw [hcells, List.toArray_replicate] at hd
  have HD := hid hd
  have HS := hid hs
  have HL := hid hlen
  have HOK := hid hok
  clear h hs hlen hok hd hcells e6 hk
  go_enter Try.func14, Try.ntmps14
  go_wp2_with ((with_reducible show wpList _ _ _ (Oper.mk (some 29) _ _ _ _ _ :: _) _ _); refine wpList_copy (by rfl) (.tmp 27) (.tmp 28) 37 37 (by rfl) Try.underlying37 u8size (by rfl) (by rfl) HD.out.p1 (by rfl) 0 n (by show _ = min _ _; omega) (fun _ => rfl) (by simp) (HS.out.ext (by repeat (first | exact Fr.refl _ _ _ | assumption | apply Fr.drew | (refine Fr.drewN ?_ _) | (refine Fr.alloc ?_ (by first | omega | (simp; done) | (simp; omega)) _) | (refine Fr.setCell ?_ (by first | (left; simp; done) | (right; simp; done) | (right; simp; omega)) _)))) (byts_oneCell _) ?_; intro w2 hm2)
  go_ret2
  refine ⟨w.heap.size + 1, rfl, ?_⟩
  have e : splice (List.replicate n (Value.int .u8 0)) 0 ((byts l).take n) = byts l := by
    have hb : (byts l).length = n := by rw [byts_length, HL.out]
    simp [splice, ← hb]
  rw [e] at hm2
  refine Mem.devNew (ia := some ⟨w.heap.size, 0, none⟩) (ic := n) HOK.out ?_
  refine (Mem.of_row rfl (rest := []) (by rw [byts_length]; omega) (by rw [HL.out]; exact Nat.le_refl _) (by omega) (by rw [byts_length, HL.out]; simp) ?_).p1
  rw [List.append_nil, HC.out]
  exact hm2

end Go.Proofs.Ytpaebopmppbjbaa
