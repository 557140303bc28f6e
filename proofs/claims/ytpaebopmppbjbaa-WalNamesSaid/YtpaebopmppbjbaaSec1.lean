/- The walks of the small functions of package sectors. -/
import Derived.Test.YtpaebopmppbjbaaProg
import Derived.Test.YtpaebopmppbjbaaDev
import Derived.Deep.CutRange
import Derived.Deep.RegionLaw
set_option linter.unusedVariables false
set_option linter.unusedSimpArgs false
namespace Go.Proofs.Ytpaebopmppbjbaa
open Go Go.RowKit Go.Le

theorem u8size : (Try.prog.info? 5).map (·.size) = some 1 := by kernel_rfl
theorem u8info : (Try.prog.info? 5).map (fun i => (i.zero, i.size, i.bytes)) = some (some (.int .u8 0), 1, 1) := by kernel_rfl
theorem u64info : (Try.prog.info? 127).map (fun i => (i.zero, i.size, i.bytes)) = some (some (.int .u64 0), 1, 8) := by kernel_rfl
theorem peInfo : (Try.prog.info? 85).map (fun i => (i.zero, i.size, i.bytes)) = some (some (.agg #[.int .i64 0, .slice none 0 0]), 2, 32) := by kernel_rfl
def T8 : Ty := ⟨5, 85, 127, 83⟩

theorem Sectors_any (wb w : World) (R : HP) (g : Nat) (D : Dev) (ka : Option Addr) (kn kc : Nat) (h : Mem wb w (dev0 T8 g D ka kn kc * R)) (hk : D.ok) :
    Calls Try.prog 28 #[.pointer (some ⟨g, 0, none⟩)] w fun e w' => e = .returned (.int .i64 (D.n : Int)) ∧ w = w' := by
  obtain ⟨ia, ic, pa, pc, hm⟩ := Mem.dev0.1 h
  obtain ⟨n, hn, h1, h2⟩ := hk.img
  have c0 := hm.cell 0
  simp only [devCells, List.getElem?_cons_zero] at c0
  have hl : D.img.length ≤ 2097152 := by omega
  have HN : Hid ((D.n : Int) = (D.img.length : Int) / 512) := by show _ = _; unfold Dev.n; omega
  clear hn h hm hk h1 h2
  go_enter Try.func28, Try.ntmps28
  go_wp2
  go_ret
  exact ⟨by rw [HN.out]; rfl, rfl⟩

/-- what a walk reads of a device's own block -/
theorem dev_cells {wb w : World} {g : Nat} {t : TypeId} {R : HP} {D : Dev} {ia pa ka : Option Addr} {ic pc kn kc : Nat} (h : Mem wb w (pts g t (devCells D ia ic pa pc ka kn kc) * R)) :
    w.cell? ⟨g, 0, none⟩ = some (.slice ia D.img.length ic) ∧ w.cell? ⟨g, 1, none⟩ = some (.slice pa D.pend.length pc) ∧ w.cell? ⟨g, 2, none⟩ = some (.bool D.down) ∧ w.cell? ⟨g, 3, none⟩ = some (.int .i64 D.armed) ∧
    w.cell? ⟨g, 4, none⟩ = some (.slice ka kn kc) ∧ w.cell? ⟨g, 5, none⟩ = some (.int .i64 D.loss.torn) ∧ w.cell? ⟨g, 6, none⟩ = some (.int .i64 D.loss.off) ∧ w.cell? ⟨g, 7, none⟩ = some (.int .i64 D.calls) :=
  ⟨h.cell 0, h.cell 1, h.cell 2, h.cell 3, h.cell 4, h.cell 5, h.cell 6, h.cell 7⟩
theorem dev_free {wb w : World} {g : Nat} {t : TypeId} {R : HP} {D : Dev} {ia pa ka : Option Addr} {ic pc kn kc : Nat} (h : Mem wb w (pts g t (devCells D ia ic pa pc ka kn kc) * R)) :
    w.frozen? ⟨g, 0, none⟩ = false ∧ w.frozen? ⟨g, 1, none⟩ = false ∧ w.frozen? ⟨g, 2, none⟩ = false ∧ w.frozen? ⟨g, 3, none⟩ = false ∧
    w.frozen? ⟨g, 4, none⟩ = false ∧ w.frozen? ⟨g, 5, none⟩ = false ∧ w.frozen? ⟨g, 6, none⟩ = false ∧ w.frozen? ⟨g, 7, none⟩ = false :=
  ⟨h.frozen 0, h.frozen 1, h.frozen 2, h.frozen 3, h.frozen 4, h.frozen 5, h.frozen 6, h.frozen 7⟩

/-- the image's cut: a sector -/
theorem sector_any (wb w : World) (R : HP) (g : Nat) (D : Dev) (gi : Nat) (pa ka : Option Addr) (ic pc kn kc : Nat) (h : Mem wb w (pts g T8.dv (devCells D (some ⟨gi, 0, none⟩) ic pa pc ka kn kc) * R)) (hl : D.img.length ≤ 2097152) (hic : D.img.length ≤ ic) (hic2 : ic ≤ 9223372036854775807) (i : Nat) (hi : i * 512 + 512 ≤ D.img.length) :
    Calls Try.prog 61 #[.pointer (some ⟨g, 0, none⟩), .int .i64 (i : Int)] w fun e w' => e = .returned (.slice (some ⟨gi, i * 512, none⟩) 512 (ic - i * 512)) ∧ w = w' := by
  have c0 := h.cell 0
  simp only [devCells, List.getElem?_cons_zero] at c0
  clear h
  have e1 : (i + 1) * 512 - i * 512 = 512 := by omega
  have E1 := hid e1
  clear e1
  go_enter Try.func61, Try.ntmps61
  go_wp2
  go_ret
  exact ⟨by simp [E1.out], rfl⟩

theorem asked_any (wb w : World) (R : HP) (g : Nat) (D : Dev) (ka : Option Addr) (kn kc : Nat) (h : Mem wb w (dev0 T8 g D ka kn kc * R)) (hk : D.ok) (i : Int) (i1 : -9223372036854775808 ≤ i) (i2 : i ≤ 9223372036854775807) :
    Calls Try.prog 65 #[.pointer (some ⟨g, 0, none⟩), .int .i64 i] w fun e w' => e = .returned (.int .i64 (D.asked i)) ∧ w = w' := by
  obtain ⟨ia, ic, pa, pc, hm⟩ := Mem.dev0.1 h
  obtain ⟨c0, c1, c2, c3, c4, c5, c6, c7⟩ := dev_cells hm
  have hS := hid (Sectors_any wb w R g D ka kn kc h hk)
  clear hm h c0 c1 c3 c4 c5 c6 c7
  obtain ⟨n, hn, h1, h2⟩ := hk.img
  have hN : D.n ≤ 4096 := by unfold Dev.n; omega
  have HA : Hid (D.asked i = if D.down then 80 else if i < 0 ∨ (D.n : Int) ≤ i then 81 else 0) := rfl
  generalize D.asked i = q at *
  clear hk hn
  generalize D.n = N at *
  cases hd : D.down
  all_goals
    have HD := hid hd
    rw [hd] at c2 HA
    clear hd
  · by_cases ha : i < 0
    · go_enter Try.func65, Try.ntmps65
      go_wp2_with (go_at_call 28; refine hS.out.mono ?_; rintro e w' ⟨rfl, rfl⟩)
      go_ret
      exact ⟨by rw [HA.out]; simp [ha], rfl⟩
    · by_cases hb : (N : Int) ≤ i
      · go_enter Try.func65, Try.ntmps65
        go_wp2_with (go_at_call 28; refine hS.out.mono ?_; rintro e w' ⟨rfl, rfl⟩)
        go_ret
        exact ⟨by rw [HA.out]; simp [ha, hb], rfl⟩
      · go_enter Try.func65, Try.ntmps65
        go_wp2_with (go_at_call 28; refine hS.out.mono ?_; rintro e w' ⟨rfl, rfl⟩)
        go_ret
        exact ⟨by rw [HA.out]; simp [ha, hb], rfl⟩
  · go_enter Try.func65, Try.ntmps65
    go_wp2
    go_ret
    exact ⟨by rw [HA.out]; simp, rfl⟩

theorem crashes_any (wb w : World) (R : HP) (g : Nat) (D : Dev) (ka : Option Addr) (kn kc : Nat) (h : Mem wb w (dev0 T8 g D ka kn kc * R)) (hk : D.ok) :
    Calls Try.prog 59 #[.pointer (some ⟨g, 0, none⟩)] w fun e w' => e = .returned (.bool D.fires) ∧ Mem wb w' (dev0 T8 g D.count ka kn kc * R) := by
  obtain ⟨ia, ic, pa, pc, hm⟩ := Mem.dev0.1 h
  obtain ⟨c0, c1, c2, c3, c4, c5, c6, c7⟩ := dev_cells hm
  obtain ⟨f0, f1, f2, f3, f4, f5, f6, f7⟩ := dev_free hm
  obtain ⟨a1, a2⟩ := hk.armed
  have HM := hid hm
  clear h hm hk
  by_cases h0 : D.armed = 0
  · have H0 := hid h0
    rw [h0] at c3
    clear h0 a1 a2
    go_enter Try.func59, Try.ntmps59
    go_wp2
    go_ret
    refine ⟨by simp [Dev.fires, H0.out], Mem.dev0.2 ⟨ia, ic, pa, pc, ?_⟩⟩
    have := HM.out.setCell 7 (.int .i64 (wrap64 (D.calls + 1)))
    simpa [devCells, Dev.count, H0.out] using this
  · have hne : (D.armed == 0) = false := by simpa using h0
    have H0 := hid h0
    clear h0
    go_enter Try.func59, Try.ntmps59
    go_wp2
    go_ret
    refine ⟨?_, Mem.dev0.2 ⟨ia, ic, pa, pc, ?_⟩⟩
    · show Ending.returned (.bool (D.armed - 1 == 0)) = _
      congr 2
      rw [Bool.eq_iff_iff]
      simp [Dev.fires]
      omega
    · have := (HM.out.setCell 7 (.int .i64 (wrap64 (D.calls + 1)))).setCell 3 (.int .i64 (D.armed - 1))
      simpa [devCells, Dev.count, H0.out] using this

theorem Down_any (wb w : World) (R : HP) (g : Nat) (D : Dev) (ka : Option Addr) (kn kc : Nat) (h : Mem wb w (dev0 T8 g D ka kn kc * R)) :
    Calls Try.prog 40 #[.pointer (some ⟨g, 0, none⟩)] w fun e w' => e = .returned (.bool D.down) ∧ w = w' := by
  obtain ⟨ia, ic, pa, pc, hm⟩ := Mem.dev0.1 h
  obtain ⟨c0, c1, c2, c3, c4, c5, c6, c7⟩ := dev_cells hm
  clear h hm c0 c1 c3 c4 c5 c6 c7
  go_enter Try.func40, Try.ntmps40
  go_wp2
  go_ret
  exact ⟨rfl, rfl⟩
theorem Calls_any (wb w : World) (R : HP) (g : Nat) (D : Dev) (ka : Option Addr) (kn kc : Nat) (h : Mem wb w (dev0 T8 g D ka kn kc * R)) :
    Calls Try.prog 34 #[.pointer (some ⟨g, 0, none⟩)] w fun e w' => e = .returned (.int .i64 D.calls) ∧ w = w' := by
  obtain ⟨ia, ic, pa, pc, hm⟩ := Mem.dev0.1 h
  obtain ⟨c0, c1, c2, c3, c4, c5, c6, c7⟩ := dev_cells hm
  clear h hm c0 c1 c3 c4 c5 c6 c2
  go_enter Try.func34, Try.ntmps34
  go_wp2
  go_ret
  exact ⟨rfl, rfl⟩
theorem keeps_any (w : World) (l : Loss) (ka : Option Addr) (kc : Nat) (hs : Sl w ka l.keep.length kc (u64s l.keep)) (hb : ∀ x ∈ l.keep, x < 18446744073709551616) (k : Nat) (hk : k ≤ 9223372036854775807) :
    Calls Try.prog 69 #[.agg #[.slice ka l.keep.length kc, .int .i64 l.torn, .int .i64 l.off], .int .i64 (k : Int)] w fun e w' => e = .returned (.bool (kept l k)) ∧ Fr w.heap.size [] w w' := by
  have HK : Hid (kept l k = (decide (k / 64 < l.keep.length) && (l.keep.getD (k / 64) 0 / 2 ^ (k % 64) % 2 == 1))) := rfl
  generalize kept l k = q at *
  have hle := hs.le
  have hcap := hs.cap
  by_cases hlt : k / 64 < l.keep.length
  · obtain ⟨b, o, rfl⟩ := hs.addr (by omega)
    have hc := hs.at (k / 64) hlt
    simp only [u64s, List.getElem_map] at hc
    have hx := hb (l.keep[k / 64]) (List.getElem_mem _)
    have hg : Hid (l.keep.getD (k / 64) 0 = l.keep[k / 64]) := by
      show _ = _
      rw [List.getD_eq_getElem?_getD, List.getElem?_eq_getElem hlt]; rfl
    generalize l.keep[k / 64] = x at *
    generalize l.keep.length = n at *
    clear hs hb
    have hd : (k : Int) / 64 < (n : Int) := by omega
    obtain ⟨m, hm⟩ : ∃ m, m = k / 64 := ⟨_, rfl⟩
    have hmi : (k : Int) / 64 = (m : Int) := by omega
    obtain ⟨r, hr⟩ : ∃ r, r = k % 64 := ⟨_, rfl⟩
    have hri : (k : Int) % 64 = (r : Int) := by omega
    have hr64 : r < 64 := by omega
    rw [← hm] at hc hlt hg HK
    rw [← hr] at HK
    rw [hmi] at hd
    clear hm hr
    have hc' : ∀ o : Obj, (w.alloc o).cell? _ = _ := fun o => Fr.cell_ext (w := w) (by repeat (first | exact Fr.refl _ _ _ | assumption | apply Fr.drew | (refine Fr.drewN ?_ _) | (refine Fr.alloc ?_ (by first | omega | (simp; done) | (simp; omega)) _) | (refine Fr.setCell ?_ (by first | (left; simp; done) | (right; simp; done) | (right; simp; omega)) _))) hc
    clear hc
    go_enter Try.func69, Try.ntmps69
    go_wp2
    go_ret
    refine ⟨?_, (by repeat (first | exact Fr.refl _ _ _ | assumption | apply Fr.drew | (refine Fr.drewN ?_ _) | (refine Fr.alloc ?_ (by first | omega | (simp; done) | (simp; omega)) _) | (refine Fr.setCell ?_ (by first | (left; simp; done) | (right; simp; done) | (right; simp; omega)) _)))⟩
    show Ending.returned (Value.bool (bits BinOp.and IntKind.u64 ((x : Int) / 2 ^ r) 1 == 1)) = _
    rw [HK.out, kept_bit x r hx, hg.out]
    simp [hlt]
  · have hf := hid hlt
    generalize l.keep.length = n at *
    clear hs hb
    go_enter Try.func69, Try.ntmps69
    go_wp2
    go_ret
    exact ⟨by rw [HK.out]; simp [hf.out], (by repeat (first | exact Fr.refl _ _ _ | assumption | apply Fr.drew | (refine Fr.drewN ?_ _) | (refine Fr.alloc ?_ (by first | omega | (simp; done) | (simp; omega)) _) | (refine Fr.setCell ?_ (by first | (left; simp; done) | (right; simp; done) | (right; simp; omega)) _)))⟩
end Go.Proofs.Ytpaebopmppbjbaa
