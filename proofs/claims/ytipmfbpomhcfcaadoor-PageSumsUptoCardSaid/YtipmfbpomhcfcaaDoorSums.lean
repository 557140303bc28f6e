/- PageSums: the checksum's algebra in plain Lean; operations of a region that draws its order, kind by kind. -/
import Derived.Test.YtipmfbpomhcfcaaDoorAny
import Derived.Test.YtipmfbpomhcfcaaDoorCrcBits
import Derived.Test.YtipmfbpomhcfcaaDoorPgLaw
import Derived.Deep.CutRange
import Derived.Deep.RegionLaw
import Derived.Lib.SlBytesConst
set_option linter.unusedVariables false
set_option linter.unusedSimpArgs false
namespace Go.Le
open Go Go.RowKit
/-- three lists of one length, byte by byte -/
def xorL (x y : List UInt8) : List UInt8 := List.zipWith (· ^^^ ·) x y
theorem wide_xor (a b : UInt8) : wide (a ^^^ b) = wide a ^^^ wide b := by
  apply BitVec.eq_of_toNat_eq
  rw [BitVec.toNat_xor, wide_toNat, wide_toNat, wide_toNat]
  rfl
theorem crcRun_xor : ∀ (a b c : List UInt8) (x y z : BitVec 32), a.length = b.length → c = List.replicate a.length 0 →
    crcRun (x ^^^ y ^^^ z) (xorL a b) = crcRun x a ^^^ crcRun y b ^^^ crcRun z c
  | [], [], c, x, y, z, _, hc => by
    subst hc; rfl
  | a :: al, b :: bl, c, x, y, z, h, hc => by
    subst hc
    have ih := crcRun_xor al bl (List.replicate al.length 0) (crcByte x a) (crcByte y b) (crcByte z 0) (by simpa using h) rfl
    show crcRun (crcByte (x ^^^ y ^^^ z) (a ^^^ b)) (xorL al bl) = crcRun (crcByte x a) al ^^^ crcRun (crcByte y b) bl ^^^ crcRun (crcByte z 0) (List.replicate al.length 0)
    rw [← ih]
    congr 1
    rw [crcByte_shN, crcByte_shN, crcByte_shN, crcByte_shN, ← shN_xor, ← shN_xor, wide_xor]
    congr 1
    have : wide 0 = 0#32 := rfl
    rw [this]
    rw [BitVec.xor_zero]
    ac_rfl
theorem crc_xor (a b : List UInt8) (h : a.length = b.length) : crc (xorL a b) = crc a ^^^ crc b ^^^ crc (List.replicate a.length 0) := by
  have h1 := crcRun_xor a b _ 0xffffffff#32 0xffffffff#32 0xffffffff#32 h rfl
  have e : (0xffffffff#32 ^^^ 0xffffffff#32 ^^^ 0xffffffff#32 : BitVec 32) = 0xffffffff#32 := by decide
  rw [e] at h1
  unfold crc
  rw [h1]
  ext i
  simp
theorem crc_digits : crc [49, 50, 51, 52, 53, 54, 55, 56, 57] = 0xe3069283#32 := by decide +kernel
theorem crc_none : crc [] = 0#32 := by decide

theorem Sl.new {w : World} (cs : List Value) (e : TypeId) (fz : Nat × Nat) (n : Nat) (hn : cs.length = n) (hm : n ≤ 9223372036854775807) : Sl (w.alloc (.cells cs.toArray e fz)) (some ⟨w.heap.size, 0, none⟩) n n cs :=
  ⟨hn, Nat.le_refl _, hm, (fun h => by cases h), (fun p hp _ => by cases hp; rfl), fun i hi p hp => by
    cases hp
    rw [cell_of_row _ w.heap.size (0 + i) cs.toArray e fz (heap_alloc_new w _)]
    simp⟩
/-- the world goes on: nothing old is turned -/
def Ext (w w' : World) : Prop := Fr w.heap.size [] w w'
theorem Ext.refl (w : World) : Ext w w := Fr.refl _ _ _
theorem Ext.trans (a b c : World) (h : Ext a b) (k : Ext b c) : Ext a c := Fr.call' (k := k) (h := h) (hS := by simp)
theorem Ext.drew (w : World) : Ext w w.drew := (Fr.refl _ _ _).drew
theorem SlL.ext {w w' : World} {a : Option Addr} {n c : Nat} {ls : List (List UInt8)} (h : SlL w a n c ls) (hf : Fr w.heap.size [] w w') : SlL w' a n c ls := by
  obtain ⟨vs, h1, h2, h3⟩ := h.out
  refine ⟨vs, h1.ext hf, h2, fun i hi => ?_⟩
  obtain ⟨a', n', c', h4, h5⟩ := h3 i hi
  exact ⟨a', n', c', h4, h5.ext hf⟩
def sayIs (v : Value) : Say Ext := ⟨fun x _ => x = v, fun _ _ _ h _ => h⟩
def sayB (l : List UInt8) : Say Ext := ⟨fun v w => ∃ a n c, v = .slice a n c ∧ Sl w a n c (byts l), fun _ _ _ ⟨a, n, c, h1, h2⟩ hf => ⟨a, n, c, h1, h2.ext hf⟩⟩
def sayL (ls : List (List UInt8)) : Say Ext := ⟨fun v w => ∃ a n c, v = .slice a n c ∧ SlL w a n c ls, fun _ _ _ ⟨a, n, c, h1, h2⟩ hf => ⟨a, n, c, h1, h2.ext hf⟩⟩

section
variable {P : Program} {md : Region.Mode} {ops : List Oper} {Q : Exit → Act → World → Prop} {R : World → World → Prop} {V : Nat → Say R} {a0 : Act} {w0 : World} {i : Nat} {o : Oper}

theorem finds_new {a : Act} {w : World} {d : Tmp} (h : finds md ops V a0 o a w d) (j : Nat) (hw : writer ops d = some j) (hb : waits md o j = true) : (V j).p (a.eval (.tmp d)) w := by
  unfold finds at h; rw [hw] at h; simp only [hb, if_true] at h; exact h
theorem finds_old {a : Act} {w : World} {d : Tmp} (h : finds md ops V a0 o a w d) (hw : writer ops d = none) : a.eval (.tmp d) = a0.eval (.tmp d) := by
  unfold finds at h; rw [hw] at h; exact h
theorem ends_new {a : Act} {w : World} {d : Tmp} (h : ends ops V a0 a w d) (j : Nat) (hw : writer ops d = some j) : (V j).p (a.eval (.tmp d)) w := by
  unfold ends at h; rw [hw] at h; exact h
theorem ends_old {a : Act} {w : World} {d : Tmp} (h : ends ops V a0 a w d) (hw : writer ops d = none) : a.eval (.tmp d) = a0.eval (.tmp d) := by
  unfold ends at h; rw [hw] at h; exact h

/-- an operation that runs to its end by itself -/
theorem does_run (hg : o.guard = none) (h : ∀ a w, R w0 w → (∀ d ∈ o.looksAt ops.toArray, finds md ops V a0 o a w d) → ∃ v w', (execOp a.eval o).run P w = .ok (.value v) w' ∧ (V i).p v w' ∧ R w w') : Does P md ops Q V a0 w0 i o := by
  intro a w K hR hf hK
  obtain ⟨v, w', h1, h2, h3⟩ := h a w hR hf
  rw [if_pos (by simp [Region.wanted, hg])]
  unfold Oper.wp
  rw [h1]
  exact hK v w' h2 h3
/-- a move, an assignment -/
theorem does_move (hrefl : ∀ w, R w w) (hg : o.guard = none) (x : Operand) (ho : o.op = .move x ∨ o.op = .assign x) (h : ∀ a w, R w0 w → (∀ d ∈ o.looksAt ops.toArray, finds md ops V a0 o a w d) → (V i).p (a.eval x) w) : Does P md ops Q V a0 w0 i o := by
  refine does_run hg fun a w hR hf => ⟨a.eval x, w, ?_, h a w hR hf, hrefl w⟩
  rcases ho with ho | ho <;> simp [execOp, ho]
/-- any other operation -/
theorem does_open (hg : o.guard = none) (h : ∀ a w K, R w0 w → (∀ d ∈ o.looksAt ops.toArray, finds md ops V a0 o a w d) → (∀ v w', (V i).p v w' → R w w' → K (a.put o.dst v) w') → o.wp P a w K Q) : Does P md ops Q V a0 w0 i o := by
  intro a w K hR hf hK
  rw [if_pos (by simp [Region.wanted, hg])]
  exact h a w K hR hf hK
end
end Go.Le
