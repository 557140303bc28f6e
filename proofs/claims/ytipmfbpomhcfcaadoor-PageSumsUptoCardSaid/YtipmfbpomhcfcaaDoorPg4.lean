/- The walks of page.Make, page.whole, page.Open, page.may, page.four, page.Head, page.OpenHead. -/
import Derived.Test.YtipmfbpomhcfcaaDoorPg3
set_option linter.unusedVariables false
set_option linter.unusedSimpArgs false
namespace Go.Le
open Go
def mkErr (number count : Int) (m : Nat) : Int :=
  if number < 1 ∨ 250 ≤ number ∨ count < 1 ∨ 65535 < count then 4 else if m = 0 then 6 else if 1008 < m then 5 else 0
def mkPage (number count : Int) (l : List UInt8) : List UInt8 := if mkErr number count l.length = 0 then pgMade 2 number.toNat count.toNat l else []
/-- size, mark, kind and checksum -/
def whErr (kind : UInt8) (l : List UInt8) : Int :=
  if l.length ≠ 1024 then 12 else if l.getD 0 0 ≠ 0xd6 then 100 else if l.getD 1 0 ≠ kind then 103 else if pgSum l ≠ (l.drop 12).take 4 then 101 else 0
end Go.Le
namespace Go.Proofs.YtipmfbpomhcfcaaDoor
open Go Go.RowKit Go.Le

set_option maxHeartbeats 1000000 in
theorem Make_any (number count : Int) (a : Option Addr) (m c : Nat) (l : List UInt8) (w : World) (ht : Tabled w) (h : Sl w a m c (byts l)) :
    Calls Tryd.prog 12 #[.int .i64 number, .int .i64 count, .slice a m c] w fun e w' => ∃ a' n' c', e = .returned (.tuple #[.slice a' n' c', .int .i64 (mkErr number count l.length)]) ∧ Ow w' w.heap.size 5 a' n' c' (byts (mkPage number count l)) ∧ Fr w.heap.size [] w w' := by
  have hle := h.le
  have hcap := h.cap
  have hlen := h.len
  rw [byts_length] at hlen
  have bad : ∀ x : Int, mkErr number count l.length = x → x ≠ 0 → ∃ a' n' c', Ending.returned (.tuple #[.slice none 0 0, .int .i64 x]) = .returned (.tuple #[.slice a' n' c', .int .i64 (mkErr number count l.length)]) ∧ Ow w w.heap.size 5 a' n' c' (byts (mkPage number count l)) ∧ Fr w.heap.size [] w w := by
    intro x hx hx0
    refine ⟨none, 0, 0, by rw [hx], ?_, Fr.refl _ _ _⟩
    rw [mkPage, hx, if_neg hx0]
    exact World.ownsRow_nil _ _ _ _
  by_cases h1 : number < 1
  · have hb := hid (bad 4 (by simp [mkErr, h1]) (by omega))
    clear bad hlen
    go_enter Tryd.func12, Tryd.ntmps12
    go_wp2
    go_ret2
    exact hb.out
  by_cases h2 : 250 ≤ number
  · have hb := hid (bad 4 (by simp [mkErr, h2]) (by omega))
    clear bad hlen
    go_enter Tryd.func12, Tryd.ntmps12
    go_wp2
    go_ret2
    exact hb.out
  by_cases h3 : count < 1
  · have hb := hid (bad 4 (by simp [mkErr, h3]) (by omega))
    clear bad hlen
    go_enter Tryd.func12, Tryd.ntmps12
    go_wp2
    go_ret2
    exact hb.out
  by_cases h4 : 65535 < count
  · have hb := hid (bad 4 (by simp [mkErr, h4]) (by omega))
    clear bad hlen
    go_enter Tryd.func12, Tryd.ntmps12
    go_wp2
    go_ret2
    exact hb.out
  by_cases h5 : m = 0
  · have hb := hid (bad 6 (by simp [mkErr, h1, h2, h3, h4, hlen, h5]) (by omega))
    have h5' : ((m : Int) == 0) = true := by simp [h5]
    clear bad hlen h5
    go_enter Tryd.func12, Tryd.ntmps12
    go_wp2
    go_ret2
    exact hb.out
  have h5' : ((m : Int) == 0) = false := by simp; omega
  by_cases h6 : 1008 < m
  · have hb := hid (bad 5 (by simp [mkErr, h1, h2, h3, h4, hlen, h5, h6]) (by omega))
    clear bad hlen
    go_enter Tryd.func12, Tryd.ntmps12
    go_wp2
    go_ret2
    exact hb.out
  have hok : mkErr number count l.length = 0 := by rw [mkErr, if_neg (by omega), if_neg (by omega), if_neg (by omega)]
  have HOK := hid hok
  have hpg : Hid (mkPage number count l = pgMade 2 number.toNat count.toNat l) := by show _ = _; rw [mkPage, if_pos hok]
  have hpl : (pgMade 2 number.toNat count.toNat l).length = 1024 := pgMade_length _ _ _ _ (by omega)
  have HPL := hid hpl
  clear bad hlen hok hpl
  go_enter Tryd.func12, Tryd.ntmps12
  go_wp2_with (go_at_call 26; refine (made_any _ 2 rfl _ _ (by omega) (by omega) (by omega) (by omega) _ _ _ _ _ ht h (by omega)).mono ?_; rintro e w' ⟨rfl, hb, hf, hs⟩)
  go_ret2
  refine ⟨some ⟨w.heap.size, 0, none⟩, 1024, 1024, by rw [HOK.out]; rfl, ?_, hf⟩
  rw [hpg.out]
  refine ⟨by rw [byts_length, HPL.out], .inr ⟨w.heap.size, 1024, _, rfl, Nat.le_refl _, hb, by omega, by simp [maxLen], by simp [byts_length, HPL.out], ?_⟩⟩
  rw [List.take_of_length_le (by simp [byts_length, HPL.out])]
end Go.Proofs.YtipmfbpomhcfcaaDoor
