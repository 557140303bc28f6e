/- A disk of sectors as plain data, what its calls make of it; and how it lies in memory. No program in sight. -/
import Derived.Test.YtpdppacafkdgdaaSepM
set_option linter.unusedVariables false
set_option linter.unusedSimpArgs false
namespace Go.Le
open Go Go.RowKit

structure Loss where
  keep : List Nat
  torn : Int
  off : Int
structure Dev where
  img : List UInt8
  pend : List (Nat × List UInt8)
  down : Bool
  armed : Int
  loss : Loss
  calls : Int

/-- a disk as there can be -/
structure Dev.ok (D : Dev) : Prop where
  img : ∃ n, D.img.length = n * 512 ∧ 1 ≤ n ∧ n ≤ 4096
  pend : ∀ p ∈ D.pend, p.1 * 512 + 512 ≤ D.img.length ∧ p.2.length = 512
  armed : 0 ≤ D.armed ∧ D.armed ≤ 9223372036854775807
  torn : -9223372036854775808 ≤ D.loss.torn ∧ D.loss.torn ≤ 9223372036854775807
  off : -9223372036854775808 ≤ D.loss.off ∧ D.loss.off ≤ 9223372036854775807
  keep : ∀ x ∈ D.loss.keep, x < 18446744073709551616
  calls : -9223372036854775808 ≤ D.calls ∧ D.calls ≤ 9223372036854775807

def Dev.n (D : Dev) : Nat := D.img.length / 512
/-- why a call of a sector is refused -/
def Dev.asked (D : Dev) (i : Int) : Int := if D.down then 80 else if i < 0 ∨ (D.n : Int) ≤ i then 81 else 0
/-- a sector's durable bytes -/
def sec (img : List UInt8) (i : Nat) : List UInt8 := (img.drop (i * 512)).take 512
/-- what is read of a sector -/
def lastOf (i : Nat) (b : List UInt8) (l : List (Nat × List UInt8)) : List UInt8 := l.foldl (fun b p => if p.1 = i then p.2 else b) b
def Dev.last (D : Dev) (i : Nat) : List UInt8 := lastOf i (sec D.img i) D.pend
/-- is the pending write number k kept? -/
def kept (l : Loss) (k : Nat) : Bool := decide (k / 64 < l.keep.length) && (l.keep.getD (k / 64) 0 / 2 ^ (k % 64) % 2 == 1)
/-- how many bytes are left of it -/
def remains (l : Loss) (k : Nat) : Nat := if kept l k then 512 else if (k : Int) = l.torn then (min (max l.off 0) 512).toNat else 0
/-- the first n bytes of a pending write go to the image -/
def put (img : List UInt8) (p : Nat × List UInt8) (n : Nat) : List UInt8 := splice img (p.1 * 512) (p.2.take n)
def fallFrom (l : Loss) : Nat → List UInt8 → List (Nat × List UInt8) → List UInt8
  | _, img, [] => img
  | k, img, p :: r => fallFrom l (k + 1) (put img p (remains l k)) r
def Dev.fall (D : Dev) (l : Loss) : Dev := { D with img := fallFrom l 0 D.img D.pend, pend := [], down := true, armed := 0 }
def flushed (img : List UInt8) (l : List (Nat × List UInt8)) : List UInt8 := l.foldl (fun b p => put b p 512) img
/-- one changing call more -/
def Dev.count (D : Dev) : Dev := { D with calls := wrap64 (D.calls + 1), armed := if D.armed = 0 then 0 else D.armed - 1 }
def Dev.fires (D : Dev) : Bool := D.armed == 1
def Dev.write (D : Dev) (i : Int) (b : List UInt8) : Dev × Int :=
  if D.asked i ≠ 0 then (D, D.asked i) else if b.length ≠ 512 then (D, 82) else
  let E := { D with pend := D.pend ++ [(i.toNat, b)] }
  if E.fires then (E.count.fall E.loss, 80) else (E.count, 0)
def Dev.flush (D : Dev) : Dev × Int :=
  if D.down then (D, 80) else if D.fires then (D.count.fall D.loss, 80) else ({ D.count with img := flushed D.img D.pend, pend := [] }, 0)
def Dev.arm (D : Dev) (step : Int) (l : Loss) : Dev × Int :=
  if D.down then (D, 80) else if step < 0 then (D, 4) else ({ D with armed := step, loss := l }, 0)
def Dev.crash (D : Dev) (l : Loss) : Dev × Int := if D.down then (D, 80) else (D.fall l, 0)
def Dev.up (D : Dev) : Dev := { D with down := false, armed := 0 }
def Dev.fresh (img : List UInt8) : Dev := { img := img, pend := [], down := false, armed := 0, loss := ⟨[], 0, 0⟩, calls := 0 }
def Dev.read (D : Dev) (i : Int) : List UInt8 × Int := if D.asked i ≠ 0 then ([], D.asked i) else (D.last i.toNat, 0)

theorem and1_u64 (y : Nat) (hy : y < 18446744073709551616) : bits .and .u64 (y : Int) 1 = ((y % 2 : Nat) : Int) := by
  unfold bits
  have e : BitVec.ofInt IntKind.u64.bits (1 : Int) = (1#64 : BitVec 64) := rfl
  have a1 : BitVec.ofInt IntKind.u64.bits (y : Int) = BitVec.ofNat 64 y := by show BitVec.ofInt 64 _ = _; rw [BitVec.ofInt_natCast]
  rw [e, a1]
  show IntKind.u64.wrap (((BitVec.ofNat 64 y &&& 1#64).toNat : Nat) : Int) = _
  rw [BitVec.toNat_and, BitVec.toNat_ofNat, Nat.mod_eq_of_lt (by omega)]
  have e2 : y &&& 1 = y % 2 := Nat.and_two_pow_sub_one_eq_mod y 1
  show IntKind.u64.wrap (((y &&& 1 : Nat)) : Int) = _
  rw [e2]
  have : y % 2 < 2 := Nat.mod_lt _ (by omega)
  simp [IntKind.wrap, IntKind.bits, IntKind.signed]
  omega
theorem kept_bit (x r : Nat) (hx : x < 18446744073709551616) : (bits .and .u64 ((x : Int) / 2 ^ r) 1 == 1) = (x / 2 ^ r % 2 == 1) := by
  have e : ((x : Int) / 2 ^ r) = ((x / 2 ^ r : Nat) : Int) := by simp
  have hlt : x / 2 ^ r < 18446744073709551616 := Nat.lt_of_le_of_lt (Nat.div_le_self _ _) hx
  rw [e, and1_u64 _ hlt, Bool.eq_iff_iff]
  simp only [beq_iff_eq]
  omega

/-- n zeros -/
def zrs (n : Nat) : List UInt8 := List.replicate n 0
theorem zrs_length (n : Nat) : (zrs n).length = n := by unfold zrs; rw [List.length_replicate]
/-- pending writes in memory: pairs of a number and bytes of its own -/
abbrev Pz := (Nat × List UInt8) × (Option Addr × Nat)
def pzCells (zs : List Pz) : List Value := zs.flatMap fun z => [.int .i64 (z.1.1 : Int), .slice z.2.1 z.1.2.length z.2.2]
def pzRow (u : TypeId) (z : Pz) : HP := row u 1 z.2.1 z.1.2.length z.2.2 (byts z.1.2)
def pends (u pt : TypeId) (a : Option Addr) (c : Nat) (L : List (Nat × List UInt8)) : HP :=
  ex fun zs : List Pz => pur (zs.map (·.1) = L) * (row pt 2 a L.length c (pzCells zs) * all (zs.map (pzRow u)))
def u64s (l : List Nat) : List Value := l.map fun x : Nat => .int .u64 (x : Int)
def devCells (D : Dev) (ia : Option Addr) (ic : Nat) (pa : Option Addr) (pc : Nat) (ka : Option Addr) (kn kc : Nat) : List Value :=
  [.slice ia D.img.length ic, .slice pa D.pend.length pc, .bool D.down, .int .i64 D.armed, .slice ka kn kc, .int .i64 D.loss.torn, .int .i64 D.loss.off, .int .i64 D.calls]
/-- the types' numbers: bytes, pending writes, uint64, the device -/
structure Ty where
  u8 : TypeId
  pe : TypeId
  u64 : TypeId
  dv : TypeId
/-- a device, but for the numbers of its loss -/
def dev0 (t : Ty) (g : Nat) (D : Dev) (ka : Option Addr) (kn kc : Nat) : HP :=
  ex fun x : (Option Addr × Nat) × (Option Addr × Nat) => pts g t.dv (devCells D x.1.1 x.1.2 x.2.1 x.2.2 ka kn kc) * (row t.u8 1 x.1.1 D.img.length x.1.2 (byts D.img) * pends t.u8 t.pe x.2.1 x.2.2 D.pend)
def keepAt (t : Ty) (k : Option Addr × Nat) (l : Loss) : HP := row t.u64 1 k.1 l.keep.length k.2 (u64s l.keep)
def devAt (t : Ty) (g : Nat) (D : Dev) : HP := pur D.ok * ex fun k : Option Addr × Nat => dev0 t g D k.1 D.loss.keep.length k.2 * keepAt t k D.loss

/-- one write's bytes, to the front -/
theorem Mem.pz {wb w : World} {R : HP} {u : TypeId} {zs : List Pz} {k : Nat} {z : Pz} (h : Mem wb w (all (zs.map (pzRow u)) * R)) (hz : zs[k]? = some z) : ∃ A, Mem wb w (pzRow u z * A) := by
  obtain ⟨h1, h2⟩ := List.getElem?_eq_some_iff.1 hz
  rw [all_take _ k (by simpa using h1), sep_assoc] at h
  rw [List.getElem_map, h2] at h
  exact ⟨_, h⟩
/-- bytes written into a row, folded again -/
theorem Mem.img_back {wb w : World} {A : HP} {u : TypeId} {gi ic o m : Nat} {img img' bs : List UInt8} {rest : List Value} (h : Mem wb w (pts gi u (splice (byts img ++ rest) o ((byts bs).take m)) * A)) (hl : o + m ≤ img.length) (hb : m ≤ bs.length) (hic : img.length ≤ ic) (hic2 : ic ≤ 9223372036854775807)
    (hr : ic * 1 ≤ (byts img).length + rest.length) (h' : splice img o (bs.take m) = img') : Mem wb w (row u 1 (some ⟨gi, 0, none⟩) img'.length ic (byts img') * A) := by
  rw [byts_take, splice_front _ _ _ _ (by rw [byts_length, byts_length, List.length_take]; omega), byts_splice, h'] at h
  have hl' : img'.length = img.length := by rw [← h']; exact splice_length _ _ _ (by rw [List.length_take]; omega)
  rw [byts_length] at hr
  exact Mem.of_row rfl (by rw [byts_length]; omega) (by omega) hic2 (by rw [byts_length]; omega) h
section
variable {wb w : World} {R : HP} {t : Ty} {g : Nat} {D : Dev}
theorem Mem.dev0 {ka : Option Addr} {kn kc : Nat} : Mem wb w (dev0 t g D ka kn kc * R) ↔ ∃ ia ic pa pc, Mem wb w (pts g t.dv (devCells D ia ic pa pc ka kn kc) * (row t.u8 1 ia D.img.length ic (byts D.img) * (pends t.u8 t.pe pa pc D.pend * R))) := by
  unfold Le.dev0
  rw [Mem.exl]
  constructor
  · rintro ⟨⟨⟨ia, ic⟩, pa, pc⟩, h⟩
    exact ⟨ia, ic, pa, pc, by rw [sep_assoc, sep_assoc] at h; exact h⟩
  · rintro ⟨ia, ic, pa, pc, h⟩
    exact ⟨⟨⟨ia, ic⟩, pa, pc⟩, by rw [sep_assoc, sep_assoc]; exact h⟩
theorem Mem.devAt : Mem wb w (devAt t g D * R) ↔ D.ok ∧ ∃ ka kc, Mem wb w (Le.dev0 t g D ka D.loss.keep.length kc * (keepAt t (ka, kc) D.loss * R)) := by
  unfold Le.devAt
  rw [sep_assoc, Mem.pur, Mem.exl]
  refine and_congr Iff.rfl ⟨?_, ?_⟩
  · rintro ⟨⟨ka, kc⟩, h⟩
    exact ⟨ka, kc, by rw [sep_assoc] at h; exact h⟩
  · rintro ⟨ka, kc, h⟩
    exact ⟨⟨ka, kc⟩, by rw [sep_assoc]; exact h⟩
theorem Mem.pends {u pt : TypeId} {a : Option Addr} {c : Nat} {L : List (Nat × List UInt8)} : Mem wb w (pends u pt a c L * R) ↔ ∃ zs : List Pz, zs.map (·.1) = L ∧ Mem wb w (row pt 2 a L.length c (pzCells zs) * (all (zs.map (pzRow u)) * R)) := by
  unfold Le.pends
  rw [Mem.exl]
  constructor
  · rintro ⟨zs, h⟩
    rw [sep_assoc, Mem.pur, sep_assoc] at h
    exact ⟨zs, h.1, h.2⟩
  · rintro ⟨zs, h1, h2⟩
    exact ⟨zs, by rw [sep_assoc, Mem.pur, sep_assoc]; exact ⟨h1, h2⟩⟩
theorem Mem.pends_nil {u pt : TypeId} (h : Mem wb w R) : Mem wb w (Le.pends u pt none 0 [] * R) :=
  Mem.pends.2 ⟨[], rfl, Mem.row_none.2 ⟨rfl, rfl, rfl, by show Mem wb w (emp * R); rw [emp_sep]; exact h⟩⟩
end
end Go.Le
