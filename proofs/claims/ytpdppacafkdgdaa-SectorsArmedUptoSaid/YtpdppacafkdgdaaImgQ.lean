/- Image, its bytes a part of memory of their own; and at a region that draws its order. -/
import Derived.Test.YtpdppacafkdgdaaReg2
import Derived.Test.YtpdppacafkdgdaaSame
set_option linter.unusedVariables false
set_option linter.unusedSimpArgs false
namespace Go.Le
open Go Go.RowKit
/-- a slice that is new, and its elements -/
def rowB (u : TypeId) (n : Nat) (xs : List Value) (v : Value) : HP := ex fun x : Option Addr × Nat => pur (v = .slice x.1 n x.2) * row u 1 x.1 n x.2 xs
theorem Mem.rowB {wb w : World} {R : HP} {u : TypeId} {n : Nat} {xs : List Value} {v : Value} : Mem wb w (Le.rowB u n xs v * R) ↔ ∃ a c, v = .slice a n c ∧ Mem wb w (row u 1 a n c xs * R) := by
  unfold Le.rowB
  rw [Mem.exl]
  constructor
  · rintro ⟨⟨a, c⟩, h⟩
    rw [sep_assoc, Mem.pur] at h
    exact ⟨a, c, h.1, h.2⟩
  · rintro ⟨a, c, h1, h2⟩
    exact ⟨(a, c), by rw [sep_assoc, Mem.pur]; exact ⟨h1, h2⟩⟩
theorem Mem.rowB_sl {wb w : World} {R : HP} {u : TypeId} {n : Nat} {xs : List Value} {v : Value} (h : Mem wb w (Le.rowB u n xs v * R)) : ∃ a c, v = .slice a n c ∧ Sl w a n c xs := by
  obtain ⟨a, c, h1, h2⟩ := Mem.rowB.1 h
  exact ⟨a, c, h1, h2.row_sl⟩
/-- a list of pending writes that is new -/
def pendB (u pt : TypeId) (L : List (Nat × List UInt8)) (v : Value) : HP := ex fun a : Option Addr => pur (v = .slice a L.length L.length) * pends u pt a L.length L
theorem Mem.pendB {wb w : World} {R : HP} {u pt : TypeId} {L : List (Nat × List UInt8)} {v : Value} : Mem wb w (Le.pendB u pt L v * R) ↔ ∃ a, v = .slice a L.length L.length ∧ Mem wb w (Le.pends u pt a L.length L * R) := by
  unfold Le.pendB
  rw [Mem.exl]
  constructor
  · rintro ⟨a, h⟩
    rw [sep_assoc, Mem.pur] at h
    exact ⟨a, h.1, h.2⟩
  · rintro ⟨a, h1, h2⟩
    exact ⟨a, by rw [sep_assoc, Mem.pur]; exact ⟨h1, h2⟩⟩
end Go.Le
namespace Go.Proofs.Ytpdppacafkdgdaa
open Go Go.RowKit Go.Le
theorem Image_row (wb w : World) (R : HP) (g : Nat) (D : Dev) (h : Mem wb w (devAt T8 g D * R)) :
    Calls Try.prog 16 #[.pointer (some ⟨g, 0, none⟩)] w fun e w' => ∃ v, e = .returned v ∧ Mem wb w' (rowB 5 D.img.length (byts D.img) v * (devAt T8 g D * R)) := by
  obtain ⟨hok, ka, kc, h1⟩ := Mem.devAt.1 h
  refine (Image_any wb w _ g D ka _ kc h1 hok).mono ?_
  rintro e w' ⟨a, c, rfl, hm⟩
  refine ⟨_, rfl, Mem.rowB.2 ⟨a, c, rfl, ?_⟩⟩
  have := (Mem.devAt.2 ⟨hok, ka, kc, hm.q2⟩ : Mem wb w' (devAt T8 g D * _))
  exact this.eq (by ac_rfl)
theorem Cache_row (wb w : World) (R : HP) (g : Nat) (D : Dev) (h : Mem wb w (devAt T8 g D * R)) (hpl : D.pend.length ≤ 1000000000) :
    Calls Try.prog 27 #[.pointer (some ⟨g, 0, none⟩)] w fun e w' => ∃ v, e = .returned v ∧ Mem wb w' (pendB T8.u8 T8.pe D.pend v * (devAt T8 g D * R)) := by
  obtain ⟨hok, ka, kc, h1⟩ := Mem.devAt.1 h
  refine (Cache_any wb w _ g D ka _ kc h1 hok hpl).mono ?_
  rintro e w' ⟨a, rfl, hm⟩
  refine ⟨_, rfl, Mem.pendB.2 ⟨a, rfl, ?_⟩⟩
  have := (Mem.devAt.2 ⟨hok, ka, kc, hm.q2⟩ : Mem wb w' (devAt T8 g D * _))
  exact this.eq (by ac_rfl)
theorem Down_dev (wb w : World) (R : HP) (g : Nat) (D : Dev) (h : Mem wb w (devAt T8 g D * R)) :
    Calls Try.prog 25 #[.pointer (some ⟨g, 0, none⟩)] w fun e w' => e = .returned (.bool D.down) ∧ w = w' := by
  obtain ⟨hok, ka, kc, h1⟩ := Mem.devAt.1 h
  exact Down_any wb w _ g D ka _ kc h1
end Go.Proofs.Ytpdppacafkdgdaa
