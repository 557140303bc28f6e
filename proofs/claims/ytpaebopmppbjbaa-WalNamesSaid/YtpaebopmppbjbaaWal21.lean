/- The walks of the laws' bytes, of the document's Room and Need. -/
import Derived.Test.YtpaebopmppbjbaaWal20
set_option linter.unusedVariables false
set_option linter.unusedSimpArgs false
namespace Go.Le
open Go Go.RowKit
/-- a page's bytes, as the laws make them -/
def pgBytes (n : Nat) (f : UInt8) : List UInt8 := ((List.replicate 1024 f).set 0 (UInt8.ofNat n)).set 511 (UInt8.ofNat (n + 1))
theorem pgBytes_length (n : Nat) (f : UInt8) : (pgBytes n f).length = 1024 := by unfold pgBytes; rw [List.length_set, List.length_set, List.length_replicate]
def filled (k : Nat) (f : UInt8) : List UInt8 := List.replicate k f ++ zrs (1024 - k)
theorem filled_length (k : Nat) (f : UInt8) (h : k ≤ 1024) : (filled k f).length = 1024 := by unfold filled; rw [List.length_append, List.length_replicate, zrs_length]; omega
theorem filled_set (k : Nat) (f : UInt8) (h : k < 1024) : (filled k f).set k f = filled (k + 1) f := by
  unfold filled
  rw [List.set_append_right _ _ (by rw [List.length_replicate]; exact Nat.le_refl _), List.length_replicate, Nat.sub_self]
  obtain ⟨m, hm⟩ : ∃ m, 1024 - k = m + 1 := ⟨1024 - k - 1, by omega⟩
  have e : 1024 - (k + 1) = m := by omega
  rw [hm, e]
  unfold zrs
  rw [List.replicate_succ (n := m), List.set_cons_zero, List.replicate_succ' (n := k), List.append_assoc, List.singleton_append]
end Go.Le
namespace Go.Proofs.Ytpaebopmppbjbaa
open Go Go.RowKit Go.Le

set_option maxRecDepth 20000 in
set_option maxHeartbeats 4000000 in
theorem lawBytes_any (wb w : World) (R : HP) (h : Mem wb w R) (nu : Nat) (hnu : nu ≤ 250) (f : UInt8) :
    Calls Try.prog 56 #[.agg #[.int .i64 (nu : Int), .int .u8 (f.toNat : Int), .int .i64 0]] w fun e w' => ∃ g, e = .returned (.slice (some ⟨g, 0, none⟩) 1024 1024) ∧ Mem wb w' (pts g 5 (byts (pgBytes nu f)) * R) := by
  have hbx := h.alloc [.int .i64 (nu : Int), .int .u8 (f.toNat : Int), .int .i64 0] 71
  have HMK : ∀ w : World, (Instr.makeSlice 37 (.int .i64 1024) (.int .i64 1024)).run Try.prog w = .ok (.slice (some ⟨w.heap.size, 0, none⟩) 1024 1024) (w.alloc (.cells (byts (zrs 1024)).toArray 5)) := by
    intro w
    have h1 := run_make_bytes (P := Try.prog) 37 5 Try.underlying37 u8info' .i64 .i64 (1024 : Int) (by omega) (by omega) w
    rw [show (1024 : Int).toNat = 1024 from rfl] at h1
    rw [h1, show List.replicate 1024 (Value.int .u8 0) = byts (zrs 1024) by unfold zrs; rw [byts_zeros]]
  have s1 : (w.alloc (.cells #[.int .i64 (nu : Int), .int .u8 (f.toNat : Int), .int .i64 0] 71)).heap.size = w.heap.size + 1 := by simp
  have h2 := hbx.alloc (byts (zrs 1024)) 5
  rw [show (w.alloc (.cells ([.int .i64 (nu : Int), .int .u8 (f.toNat : Int), .int .i64 0] : List Value).toArray 71)).heap.size = w.heap.size + 1 from s1] at h2
  have e0 : filled 0 f = zrs 1024 := by unfold filled; rw [List.replicate_zero, List.nil_append]
  have HM0 := hid (h2.eq (by rw [e0]) : Mem wb _ (pts (w.heap.size + 1) 5 (byts (filled 0 f)) * (pts w.heap.size 71 [.int .i64 (nu : Int), .int .u8 (f.toNat : Int), .int .i64 0] * R)))
  clear h hbx h2 s1 e0
  go_enter Try.func56, Try.ntmps56
  go_wp2_with fail
  clear HMK
  go_loopw [5] (fun iv wr => ∃ k : Nat, k ≤ 1024 ∧ iv = .int .i64 k ∧ Mem wb wr (pts (w.heap.size + 1) 5 (byts (filled k f)) * (pts w.heap.size 71 [.int .i64 (nu : Int), .int .u8 (f.toNat : Int), .int .i64 0] * R))) (fun iv _ => 1024 - (intOf iv).toNat)
  case atStart => exact ⟨0, by omega, rfl, HM0.out⟩
  case round =>
    obtain ⟨k, hk, rfl, hm⟩ := hrel
    have HM := hid hm
    have q0 := hm.right.cell 0
    have q1 := hm.right.cell 1
    simp only [List.getElem?_cons_zero, List.getElem?_cons_succ] at q0 q1
    clear HM0
    by_cases hlt : k < 1024
    · have kn : (k : Int) < 1024 := by omega
      have kn2 : ¬ (1024 : Int) ≤ (k : Int) := by omega
      have c0 := hm.cell k
      have f0 := hm.frozen k
      rw [List.getElem?_eq_getElem (by rw [byts_length, filled_length k f hk]; exact hlt)] at c0
      have h3 := hm.setCell k (.int .u8 (f.toNat : Int))
      rw [byts_set, filled_set k f hlt] at h3
      have HM3 := hid h3
      obtain ⟨x, hx⟩ : ∃ x, (byts (filled k f))[k]'(by rw [byts_length, filled_length k f hk]; exact hlt) = x := ⟨_, rfl⟩
      rw [hx] at c0
      clear hm h3 HM hx
      go_wp2_with fail
      go_roundw
      case rel => exact ⟨k + 1, by omega, by go_num, HM3.out⟩
      case measure => simp [intOf] <;> omega
    · obtain rfl : k = 1024 := by omega
      have c0 := hm.cell 0
      have f0 := hm.frozen 0
      have f5 := hm.frozen 511
      have c5 := hm.cell 511
      rw [List.getElem?_eq_getElem (by rw [byts_length, filled_length 1024 f hk]; omega)] at c0 c5
      have h3 := (hm.setCell 0 (.int .u8 (((UInt8.ofNat nu).toNat : Nat) : Int))).setCell 511 (.int .u8 (((UInt8.ofNat (nu + 1)).toNat : Nat) : Int))
      have e : ((byts (filled 1024 f)).set 0 (.int .u8 (((UInt8.ofNat nu).toNat : Nat) : Int))).set 511 (.int .u8 (((UInt8.ofNat (nu + 1)).toNat : Nat) : Int)) = byts (pgBytes nu f) := by
        rw [byts_set, byts_set]
        have e2 : filled 1024 f = List.replicate 1024 f := by unfold filled zrs; rw [Nat.sub_self, List.replicate_zero, List.append_nil]
        rw [e2]
        rfl
      rw [e] at h3
      have e5 : ((UInt8.ofNat nu).toNat : Int) = (nu : Int) := by simp; omega
      have e6 : ((UInt8.ofNat (nu + 1)).toNat : Int) = (nu : Int) + 1 := by simp; omega
      rw [e5, e6] at h3
      have HM3 := hid h3
      obtain ⟨x, hx⟩ : ∃ x, (byts (filled 1024 f))[0]'(by rw [byts_length, filled_length 1024 f hk]; omega) = x := ⟨_, rfl⟩
      obtain ⟨y, hy⟩ : ∃ y, (byts (filled 1024 f))[511]'(by rw [byts_length, filled_length 1024 f hk]; omega) = y := ⟨_, rfl⟩
      rw [hx] at c0
      rw [hy] at c5
      have w1 : IntKind.u8.wrap (nu : Int) = (nu : Int) := by simp [IntKind.wrap, IntKind.bits, IntKind.signed]; omega
      have w2 : IntKind.u8.wrap ((nu : Int) + 1) = (nu : Int) + 1 := by simp [IntKind.wrap, IntKind.bits, IntKind.signed]; omega
      have w3 : IntKind.i64.wrap ((nu : Int) + 1) = (nu : Int) + 1 := IntWalk.i64_in _ (by omega)
      clear hm h3 HM hx hy e e5 e6
      go_wp2_with fail
      go_ret
      exact ⟨_, rfl, (HM3.out.p1.right.eq (by ac_rfl) : Mem wb _ (pts (w.heap.size + 1) 5 (byts (pgBytes nu f)) * R))⟩
end Go.Proofs.Ytpaebopmppbjbaa
