/- The walk of page.Sum: it computes the checksum of all parts, one behind the other. -/
import Derived.Test.YtipmfbpomhcfcaaDoorProg
import Derived.Test.YtipmfbpomhcfcaaDoorCrc
set_option linter.unusedVariables false
set_option linter.unusedSimpArgs false
namespace Go.Proofs.YtipmfbpomhcfcaaDoor
open Go Go.RowKit Go.Le

/-- the table's cells -/
def Tabled (w : World) : Prop := ∀ i, i < 16 → w.cell? ⟨0, i, none⟩ = some (.int .u32 ((tabAt i).toNat : Int))

theorem Tabled.ext {w w' : World} (h : Tabled w) (hf : Fr w.heap.size [] w w') : Tabled w' := fun i hi => hf.cell_ext (h i hi)

set_option maxHeartbeats 400000 in
theorem sum_any (a : Option Addr) (n c : Nat) (ls : List (List UInt8)) (w : World) (ht : Tabled w) (h : SlL w a n c ls) (hn : n ≤ 1000000000) :
    Calls Tryd.prog 8 #[.slice a n c] w fun e w' => e = .returned (.int .u32 ((crc ls.flatten).toNat : Int)) ∧ w = w' := by
  have hlen := h.len
  have Ht := hid ht
  have HL := hid hlen
  clear ht hlen
  go_enter Tryd.func8, Tryd.ntmps8
  go_wp2
  go_loop [3,10] (fun x i => ∃ k : Nat, k ≤ n ∧ i = .int .i64 k ∧ x = .int .u32 ((crcRun 0xffffffff#32 (ls.take k).flatten).toNat : Int)) (fun _ i => n - (intOf i).toNat)
  case atStart => exact ⟨0, by omega, rfl, by simp [crcRun]⟩
  case round =>
    obtain ⟨k, hk, rfl, rfl⟩ := hrel
    by_cases hlt : k < n
    · obtain ⟨b, o, rfl⟩ := h.addr (by omega)
      obtain ⟨a1, n1, c1, hc, h1⟩ := h.at k (by rw [HL.out]; exact hlt)
      have hl1 := h1.len
      rw [byts_length] at hl1
      have HL1 := hid hl1
      clear hl1
      have h63 := h1.le
      have h64 := h1.cap
      generalize hx0 : crcRun 0xffffffff#32 (ls.take k).flatten = x0
      have HX0 := hid hx0
      clear hx0
      go_wp2
      go_loop [3,16] (fun x i => ∃ j : Nat, j ≤ n1 ∧ i = .int .i64 j ∧ x = .int .u32 ((crcRun x0 ((ls[k]'(by rw [HL.out]; exact hlt)).take j)).toNat : Int)) (fun _ i => n1 - (intOf i).toNat)
      case atStart => exact ⟨0, by omega, rfl, by simp [crcRun]⟩
      case round =>
        obtain ⟨j, hj, rfl, rfl⟩ := hrel
        by_cases hlt1 : j < n1
        · obtain ⟨b1, o1, rfl⟩ := h1.addr (by omega)
          have hcj := h1.at j hlt1
          simp only [byts, List.getElem_map] at hcj
          obtain ⟨z, hz⟩ : ∃ z, z = (ls[k]'(by rw [HL.out]; exact hlt))[j]'(by rw [HL1.out]; exact hlt1) := ⟨_, rfl⟩
          rw [← hz] at hcj
          simp only [byt] at hcj
          obtain ⟨x, hx⟩ : ∃ x, x = crcRun x0 ((ls[k]'(by rw [HL.out]; exact hlt)).take j) := ⟨_, rfl⟩
          rw [← hx]
          have hnext : Hid (crcRun x0 ((ls[k]'(by rw [HL.out]; exact hlt)).take (j + 1)) = crcByte x z) := by
            show _ = _
            rw [crcRun_take _ _ _ (by rw [HL1.out]; exact hlt1), ← hx, ← hz]
          clear hz hx
          have hz8 := z.toNat_lt
          obtain ⟨y1, hy1⟩ : ∃ y, y = x ^^^ wide z := ⟨_, rfl⟩
          have e1 : bits .xor .u32 (x.toNat : Int) (z.toNat : Int) = (y1.toNat : Int) := by rw [hy1, ← xor_u32, wide_toNat]
          obtain ⟨i1, hi1⟩ : ∃ i, i = y1.toNat % 16 := ⟨_, rfl⟩
          have e2 : bits .and .u32 (y1.toNat : Int) 15 = (i1 : Int) := by rw [hi1, and15_u32]
          have l1 : i1 < 16 := by omega
          have t1 := Ht.out i1 l1
          obtain ⟨y2, hy2⟩ : ∃ y, y = nib y1 := ⟨_, rfl⟩
          have e3 : bits .xor .u32 ((tabAt i1).toNat : Int) ((y1.toNat : Int) / 16) = (y2.toNat : Int) := by rw [hy2, shr4_u32, xor_u32, nib, hi1]
          obtain ⟨i2, hi2⟩ : ∃ i, i = y2.toNat % 16 := ⟨_, rfl⟩
          have e4 : bits .and .u32 (y2.toNat : Int) 15 = (i2 : Int) := by rw [hi2, and15_u32]
          have l2 : i2 < 16 := by omega
          have t2 := Ht.out i2 l2
          have e5 : bits .xor .u32 ((tabAt i2).toNat : Int) ((y2.toNat : Int) / 16) = ((crcByte x z).toNat : Int) := by rw [shr4_u32, xor_u32, crcByte, ← hy1, ← hy2, nib, hi2]
          clear hy1 hy2 hi1 hi2
          go_wp2
          go_round
          case rel => exact ⟨j + 1, by omega, by go_num, by rw [hnext.out]⟩
          case measure => simp [intOf]; omega
        · have hjn : j = n1 := by omega
          have hnext : Hid (crcRun 0xffffffff#32 (ls.take (k+1)).flatten = crcRun x0 ((ls[k]'(by rw [HL.out]; exact hlt)).take j)) := by
            show _ = _
            rw [List.take_succ_eq_append_getElem (by rw [HL.out]; exact hlt), List.flatten_append, crcRun_append, HX0.out, List.take_of_length_le (by rw [HL1.out]; omega)]
            simp
          clear hjn
          go_wp2
          go_round
          case rel => exact ⟨k + 1, by omega, by go_num, by rw [hnext.out]⟩
          case measure => simp [intOf]; omega
    · have hfin : Hid (crcRun 0xffffffff#32 (ls.take k).flatten = crcRun 0xffffffff#32 ls.flatten) := by
        show _ = _
        rw [List.take_of_length_le (by rw [HL.out]; omega)]
      go_wp2
      go_ret
      refine ⟨?_, rfl⟩
      show Ending.returned (Value.int IntKind.u32 _) = _
      rw [hfin.out, not_u32]; rfl
end Go.Proofs.YtipmfbpomhcfcaaDoor
