/- The walks of New, Load, Image, Crash, Arm (package sectors). -/
import Derived.Test.YtpaebopmppbjbaaSec2
set_option linter.unusedVariables false
set_option linter.unusedSimpArgs false
namespace Go.Le
open Go Go.RowKit
theorem fresh_ok (img : List UInt8) (n : Nat) (h : img.length = n * 512) (h1 : 1 ≤ n) (h2 : n ≤ 4096) : (Dev.fresh img).ok :=
  ⟨⟨n, h, h1, h2⟩, by simp [Dev.fresh], by simp [Dev.fresh], by simp [Dev.fresh], by simp [Dev.fresh], by simp [Dev.fresh], by simp [Dev.fresh]⟩
theorem byts_zeros (n : Nat) : List.replicate n (Value.int .u8 0) = byts (List.replicate n 0) := by simp [byts, byt]
theorem fallFrom_length (l : Loss) : ∀ (k : Nat) (img : List UInt8) (pend : List (Nat × List UInt8)), (∀ p ∈ pend, p.1 * 512 + 512 ≤ img.length ∧ p.2.length = 512) → (fallFrom l k img pend).length = img.length
  | _, _, [], _ => rfl
  | k, img, p :: r, h => by
    have h1 := h p (by simp)
    have h2 := put_length img p (remains l k) h1.1 h1.2
    unfold fallFrom
    rw [fallFrom_length l (k + 1) _ r (fun q hq => by rw [h2]; exact h q (by simp [hq])), h2]
theorem Dev.fall_ok {D : Dev} (h : D.ok) (l : Loss) : (D.fall l).ok := by
  have e : (D.fall l).img.length = D.img.length := fallFrom_length l 0 D.img D.pend h.pend
  obtain ⟨n, h1, h2⟩ := h.img
  exact ⟨⟨n, by rw [e]; exact h1, h2⟩, by simp [Dev.fall], by simp [Dev.fall], h.torn, h.off, h.keep, h.calls⟩
theorem wrap64_range (x : Int) : -9223372036854775808 ≤ wrap64 x ∧ wrap64 x ≤ 9223372036854775807 := by unfold wrap64; omega
theorem Dev.count_ok {D : Dev} (h : D.ok) : D.count.ok := by
  have ha := h.armed
  refine ⟨h.img, h.pend, ?_, h.torn, h.off, h.keep, wrap64_range _⟩
  simp only [Dev.count]
  split <;> omega
theorem Dev.up_ok {D : Dev} (h : D.ok) : D.up.ok := ⟨h.img, h.pend, by simp [Dev.up], h.torn, h.off, h.keep, h.calls⟩
structure Loss.ok (l : Loss) : Prop where
  torn : -9223372036854775808 ≤ l.torn ∧ l.torn ≤ 9223372036854775807
  off : -9223372036854775808 ≤ l.off ∧ l.off ≤ 9223372036854775807
  keep : ∀ x ∈ l.keep, x < 18446744073709551616
theorem Dev.ok.lossOk {D : Dev} (h : D.ok) : D.loss.ok := ⟨h.torn, h.off, h.keep⟩
/-- a new device in memory -/
theorem Mem.devNew {wb w : World} {R : HP} {t : Ty} {g : Nat} {img : List UInt8} {ia : Option Addr} {ic : Nat} (hok : (Dev.fresh img).ok) (h : Mem wb w (pts g t.dv (devCells (Dev.fresh img) ia ic none 0 none 0 0) * (row t.u8 1 ia img.length ic (byts img) * R))) : Mem wb w (Le.devAt t g (Dev.fresh img) * R) := by
  refine Mem.devAt.2 ⟨hok, none, 0, Mem.dev0.2 ⟨ia, ic, none, 0, ?_⟩⟩
  have h1 : Mem wb w (keepAt t (none, 0) (Dev.fresh img).loss * (pts g t.dv (devCells (Dev.fresh img) ia ic none 0 none 0 0) * (row t.u8 1 ia img.length ic (byts img) * R))) :=
    Mem.row_none.2 ⟨rfl, rfl, rfl, h⟩
  exact (Mem.pends_nil h1.q2).q2
end Go.Le
namespace Go.Proofs.Ytpaebopmppbjbaa
open Go Go.RowKit Go.Le

theorem New_no (w : World) (n : Int) (hn : n < 1 ∨ 4096 < n) (hn1 : -9223372036854775808 ≤ n) (hn2 : n ≤ 9223372036854775807) :
    Calls Try.prog 29 #[.int .i64 n] w fun e w' => e = .returned (.tuple #[.pointer none, .int .i64 4]) ∧ w = w' := by
  by_cases h1 : n < 1
  · go_enter Try.func29, Try.ntmps29
    go_wp2
    go_ret2
    exact ⟨rfl, rfl⟩
  · have h2 : 4096 < n := by omega
    go_enter Try.func29, Try.ntmps29
    go_wp2
    go_ret2
    exact ⟨rfl, rfl⟩
theorem New_any0 (wb w : World) (R : HP) (h : Mem wb w R) (n : Nat) (h1 : 1 ≤ n) (h2 : n ≤ 4096) :
    Calls Try.prog 29 #[.int .i64 (n : Int)] w fun e w' => ∃ g, e = .returned (.tuple #[.pointer (some ⟨g, 0, none⟩), .int .i64 0]) ∧ Mem wb w' (devAt T8 g (Dev.fresh (List.replicate (n * 512) 0)) * R) := by
  have hmk := run_make_bytes (P := Try.prog) 37 5 Try.underlying37 u8info .i64 .i64 ((n : Int) * 512) (by omega) (by omega)
  have e5 : ((n : Int) * 512).toNat = n * 512 := by omega
  rw [e5] at hmk
  have H := hid h
  clear h e5
  go_enter Try.func29, Try.ntmps29
  go_wp2
  go_ret2
  refine ⟨w.heap.size + 1, rfl, ?_⟩
  have hd := (H.out.alloc (List.replicate (n * 512) (.int .u8 0)) 5).alloc (devCells (Dev.fresh (List.replicate (n * 512) 0)) (some ⟨w.heap.size, 0, none⟩) (n * 512) none 0 none 0 0) 83
  have e6 : (w.alloc (.cells (List.replicate (n * 512) (Value.int .u8 0)).toArray 5)).heap.size = w.heap.size + 1 := by simp
  rw [e6] at hd
  refine Mem.devNew (ia := some ⟨w.heap.size, 0, none⟩) (ic := n * 512) (fresh_ok _ n (by simp) h1 h2) ?_
  refine (Mem.of_row rfl (rest := []) (by rw [byts_length]; omega) (by simp) (by omega) (by simp [byts_length]) ?_).p1
  rw [List.append_nil, ← byts_zeros]
  simpa [devCells, Dev.fresh, T8] using hd.p1

theorem New_any (wb w : World) (R : HP) (h : Mem wb w R) (n : Nat) (h1 : 1 ≤ n) (h2 : n ≤ 4096) :
    Calls Try.prog 29 #[.int .i64 (n : Int)] w fun e w' => ∃ g, e = .returned (.tuple #[.pointer (some ⟨g, 0, none⟩), .int .i64 0]) ∧ Mem wb w' (devAt T8 g (Dev.fresh (zrs (n * 512))) * R) :=
  New_any0 wb w R h n h1 h2

theorem Image_any (wb w : World) (R : HP) (g : Nat) (D : Dev) (ka : Option Addr) (kn kc : Nat) (h : Mem wb w (dev0 T8 g D ka kn kc * R)) (hk : D.ok) :
    Calls Try.prog 15 #[.pointer (some ⟨g, 0, none⟩)] w fun e w' => ∃ a c, e = .returned (.slice a D.img.length c) ∧ Mem wb w' (row 5 1 a D.img.length c (byts D.img) * (dev0 T8 g D ka kn kc * R)) := by
  obtain ⟨ia, ic, pa, pc, hm⟩ := Mem.dev0.1 h
  obtain ⟨n, hn, h1, h2⟩ := hk.img
  have hl : D.img.length ≤ 2097152 := by omega
  obtain ⟨gi, rest, rfl, -, i1, i2, -, -⟩ := hm.p1.row_at (by omega)
  have hmk := run_make_bytes (P := Try.prog) 37 5 Try.underlying37 u8info .i64 .i64 (D.img.length : Int) (by omega) (by omega)
  rw [Int.toNat_natCast] at hmk
  have c0 := hm.cell 0
  simp only [devCells, List.getElem?_cons_zero] at c0
  have c0' : ∀ o : Obj, (w.alloc o).cell? _ = _ := fun o => Fr.cell_ext (w := w) (by repeat (first | exact Fr.refl _ _ _ | assumption | apply Fr.drew | (refine Fr.drewN ?_ _) | (refine Fr.alloc ?_ (by first | omega | (simp; done) | (simp; omega)) _) | (refine Fr.setCell ?_ (by first | (left; simp; done) | (right; simp; done) | (right; simp; omega)) _))) c0
  have HS := hid hm.p1.row_sl
  have HM := hid (h.alloc (List.replicate D.img.length (.int .u8 0)) 5)
  clear hm h hk hn h1 h2 rest
  generalize hL : D.img.length = L at *
  have HLL := hid hL
  clear hL
  go_enter Try.func15, Try.ntmps15
  go_wp2_with ((with_reducible show wpList _ _ _ (Oper.mk (some 15) _ _ _ _ _ :: _) _ _); refine wpList_copy (by rfl) (.tmp 10) (.tmp 14) 37 37 (by rfl) Try.underlying37 u8size (by rfl) (by rfl) HM.out (by rfl) 0 L (by show _ = min _ _; omega) (fun _ => rfl) (by simp) (HS.out.ext (by repeat (first | exact Fr.refl _ _ _ | assumption | apply Fr.drew | (refine Fr.drewN ?_ _) | (refine Fr.alloc ?_ (by first | omega | (simp; done) | (simp; omega)) _) | (refine Fr.setCell ?_ (by first | (left; simp; done) | (right; simp; done) | (right; simp; omega)) _)))) (byts_oneCell _) ?_; intro w2 hm2)
  go_ret
  refine ⟨_, L, rfl, ?_⟩
  have e : splice (List.replicate L (Value.int .u8 0)) 0 ((byts D.img).take L) = byts D.img := by
    have hb : (byts D.img).length = L := by rw [byts_length, HLL.out]
    simp [splice, ← hb]
  rw [e] at hm2
  exact Mem.of_row (rest := []) rfl (by rw [byts_length, HLL.out]; omega) (Nat.le_refl _) (by omega) (by simp [byts_length, HLL.out]) (by simpa using hm2)

end Go.Proofs.Ytpaebopmppbjbaa
