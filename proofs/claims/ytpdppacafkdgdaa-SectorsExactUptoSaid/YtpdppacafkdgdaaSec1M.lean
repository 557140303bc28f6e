import Derived.Test.YtpdppacafkdgdaaProg
import Derived.Test.YtpdppacafkdgdaaDev
import Derived.Deep.CutRange
import Derived.Deep.RegionLaw
/- The walks of the small functions of package sectors. -/
set_option linter.unusedVariables false
set_option linter.unusedSimpArgs false
namespace Go.Proofs.Ytpdppacafkdgdaa
open Go Go.RowKit Go.Le

theorem u8size : (Try.prog.info? 5).map (·.size) = some 1 := by kernel_rfl
theorem u8info : (Try.prog.info? 5).map (fun i => (i.zero, i.size, i.bytes)) = some (some (.int .u8 0), 1, 1) := by kernel_rfl
theorem u64info : (Try.prog.info? 39).map (fun i => (i.zero, i.size, i.bytes)) = some (some (.int .u64 0), 1, 8) := by kernel_rfl
theorem peInfo : (Try.prog.info? 76).map (fun i => (i.zero, i.size, i.bytes)) = some (some (.agg #[.int .i64 0, .slice none 0 0]), 2, 32) := by kernel_rfl
def T8 : Ty := ⟨5, 76, 39, 74⟩

theorem Sectors_any (wb w : World) (R : HP) (g : Nat) (D : Dev) (ka : Option Addr) (kn kc : Nat) (h : Mem wb w (dev0 T8 g D ka kn kc * R)) (hk : D.ok) :
    Calls Try.prog 50 #[.pointer (some ⟨g, 0, none⟩)] w fun e w' => e = .returned (.int .i64 (D.n : Int)) ∧ w = w' := by
  obtain ⟨ia, ic, pa, pc, hm⟩ := Mem.dev0.1 h
  obtain ⟨n, hn, h1, h2⟩ := hk.img
  have c0 := hm.cell 0
  simp only [devCells, List.getElem?_cons_zero] at c0
  have hl : D.img.length ≤ 2097152 := by omega
  have HN : Hid ((D.n : Int) = (D.img.length : Int) / 512) := by show _ = _; unfold Dev.n; omega
  clear hn h hm hk h1 h2
  go_enter Try.func50, Try.ntmps50
  go_wp2
  go_ret
  exact ⟨by rw [HN.out]; rfl, rfl⟩

/-- what a walk reads of a device's own block -/
theorem dev_cells {wb w : World} {g : Nat} {t : TypeId} {R : HP} {D : Dev} {ia pa ka : Option Addr} {ic pc kn kc : Nat} (h : Mem wb w (pts g t (devCells D ia ic pa pc ka kn kc) * R)) :
    w.cell? ⟨g, 0, none⟩ = some (.slice ia D.img.length ic) ∧ w.cell? ⟨g, 1, none⟩ = some (.slice pa D.pend.length pc) ∧ w.cell? ⟨g, 2, none⟩ = some (.bool D.down) ∧ w.cell? ⟨g, 3, none⟩ = some (.int .i64 D.armed) ∧
    w.cell? ⟨g, 4, none⟩ = some (.slice ka kn kc) ∧ w.cell? ⟨g, 5, none⟩ = some (.int .i64 D.loss.torn) ∧ w.cell? ⟨g, 6, none⟩ = some (.int .i64 D.loss.off) ∧ w.cell? ⟨g, 7, none⟩ = some (.int .i64 D.calls) :=
  ⟨h.cell 0, h.cell 1, h.cell 2, h.cell 3, h.cell 4, h.cell 5, h.cell 6, h.cell 7⟩
theorem dev_free {wb w : World} {g : Nat} {t : TypeId} {R : HP} {D : Dev} {ia pa ka : Option Addr} {ic pc kn kc : Nat} (h : Mem wb w (pts g t (devCells D ia ic pa pc ka kn kc) * R)) :
    w.frozen? ⟨g, 0, none⟩ = false ∧ w.frozen? ⟨g, 1, none⟩ = false ∧ w.frozen? ⟨g, 2, none⟩ = false ∧ w.frozen? ⟨g, 3, none⟩ = false ∧
    w.frozen? ⟨g, 4, none⟩ = false ∧ w.frozen? ⟨g, 5, none⟩ = false ∧ w.frozen? ⟨g, 6, none⟩ = false ∧ w.frozen? ⟨g, 7, none⟩ = false :=
  have hl : (devCells D ia ic pa pc ka kn kc).length = 8 := rfl
  ⟨h.frozen 0 (by omega), h.frozen 1 (by omega), h.frozen 2 (by omega), h.frozen 3 (by omega), h.frozen 4 (by omega), h.frozen 5 (by omega), h.frozen 6 (by omega), h.frozen 7 (by omega)⟩

/-- the image's cut: a sector -/
theorem sector_any (wb w : World) (R : HP) (g : Nat) (D : Dev) (gi : Nat) (pa ka : Option Addr) (ic pc kn kc : Nat) (h : Mem wb w (pts g T8.dv (devCells D (some ⟨gi, 0, none⟩) ic pa pc ka kn kc) * R)) (hl : D.img.length ≤ 2097152) (hic : D.img.length ≤ ic) (hic2 : ic ≤ 9223372036854775807) (i : Nat) (hi : i * 512 + 512 ≤ D.img.length) :
    Calls Try.prog 44 #[.pointer (some ⟨g, 0, none⟩), .int .i64 (i : Int)] w fun e w' => e = .returned (.slice (some ⟨gi, i * 512, none⟩) 512 (ic - i * 512)) ∧ w = w' := by
  have c0 := h.cell 0
  simp only [devCells, List.getElem?_cons_zero] at c0
  clear h
  have e1 : (i + 1) * 512 - i * 512 = 512 := by omega
  have E1 := hid e1
  clear e1
  go_enter Try.func44, Try.ntmps44
  go_wp2
  go_ret
  exact ⟨by simp [E1.out], rfl⟩

theorem asked_any (wb w : World) (R : HP) (g : Nat) (D : Dev) (ka : Option Addr) (kn kc : Nat) (h : Mem wb w (dev0 T8 g D ka kn kc * R)) (hk : D.ok) (i : Int) (i1 : -9223372036854775808 ≤ i) (i2 : i ≤ 9223372036854775807) :
    Calls Try.prog 34 #[.pointer (some ⟨g, 0, none⟩), .int .i64 i] w fun e w' => e = .returned (.int .i64 (D.asked i)) ∧ w = w' := by
  obtain ⟨ia, ic, pa, pc, hm⟩ := Mem.dev0.1 h
  obtain ⟨c0, c1, c2, c3, c4, c5, c6, c7⟩ := dev_cells hm
  have hS := hid (Sectors_any wb w R g D ka kn kc h hk)
  clear hm h c0 c1 c3 c4 c5 c6 c7
  obtain ⟨n, hn, h1, h2⟩ := hk.img
  have hN : D.n ≤ 4096 := by unfold Dev.n; omega
  have HA : Hid (D.asked i = if D.down then 80 else if i < 0 ∨ (D.n : Int) ≤ i then 81 else 0) := rfl
  generalize D.asked i = q at *
  clear hk hn
  generalize D.n = N at *
  cases hd : D.down
  all_goals
    have HD := hid hd
    rw [hd] at c2 HA
    clear hd
  · by_cases ha : i < 0
    · go_enter Try.func34, Try.ntmps34
      go_wp2_with (go_at_call 50; refine hS.out.mono ?_; rintro e w' ⟨rfl, rfl⟩)
      go_ret
      exact ⟨by rw [HA.out]; simp [ha], rfl⟩
    · by_cases hb : (N : Int) ≤ i
      · go_enter Try.func34, Try.ntmps34
        go_wp2_with (go_at_call 50; refine hS.out.mono ?_; rintro e w' ⟨rfl, rfl⟩)
        go_ret
        exact ⟨by rw [HA.out]; simp [ha, hb], rfl⟩
      · go_enter Try.func34, Try.ntmps34
        go_wp2_with (go_at_call 50; refine hS.out.mono ?_; rintro e w' ⟨rfl, rfl⟩)
        go_ret
        exact ⟨by rw [HA.out]; simp [ha, hb], rfl⟩
  · go_enter Try.func34, Try.ntmps34
    go_wp2
    go_ret
    exact ⟨by rw [HA.out]; simp, rfl⟩

theorem crashes_any (wb w : World) (R : HP) (g : Nat) (D : Dev) (ka : Option Addr) (kn kc : Nat) (h : Mem wb w (dev0 T8 g D ka kn kc * R)) (hk : D.ok) :
    Calls Try.prog 35 #[.pointer (some ⟨g, 0, none⟩)] w fun e w' => e = .returned (.bool D.fires) ∧ Mem wb w' (dev0 T8 g D.count ka kn kc * R) := by
  obtain ⟨ia, ic, pa, pc, hm⟩ := Mem.dev0.1 h
  obtain ⟨c0, c1, c2, c3, c4, c5, c6, c7⟩ := dev_cells hm
  obtain ⟨f0, f1, f2, f3, f4, f5, f6, f7⟩ := dev_free hm
  obtain ⟨a1, a2⟩ := hk.armed
  have HM := hid hm
  clear h hm hk
  by_cases h0 : D.armed = 0
  · have H0 := hid h0
    rw [h0] at c3
    clear h0 a1 a2
    go_enter Try.func35, Try.ntmps35
    go_wp2
    go_ret
    refine ⟨by simp [Dev.fires, H0.out], Mem.dev0.2 ⟨ia, ic, pa, pc, ?_⟩⟩
    have := HM.out.setCell 7 (.int .i64 (wrap64 (D.calls + 1)))
    simpa [devCells, Dev.count, H0.out] using this
  · have hne : (D.armed == 0) = false := by simpa using h0
    have H0 := hid h0
    clear h0
    go_enter Try.func35, Try.ntmps35
    go_wp2
    go_ret
    refine ⟨?_, Mem.dev0.2 ⟨ia, ic, pa, pc, ?_⟩⟩
    · show Ending.returned (.bool (D.armed - 1 == 0)) = _
      congr 2
      rw [Bool.eq_iff_iff]
      simp [Dev.fires]
      omega
    · have := (HM.out.setCell 7 (.int .i64 (wrap64 (D.calls + 1)))).setCell 3 (.int .i64 (D.armed - 1))
      simpa [devCells, Dev.count, H0.out] using this

theorem Down_any (wb w : World) (R : HP) (g : Nat) (D : Dev) (ka : Option Addr) (kn kc : Nat) (h : Mem wb w (dev0 T8 g D ka kn kc * R)) :
    Calls Try.prog 25 #[.pointer (some ⟨g, 0, none⟩)] w fun e w' => e = .returned (.bool D.down) ∧ w = w' := by
  obtain ⟨ia, ic, pa, pc, hm⟩ := Mem.dev0.1 h
  obtain ⟨c0, c1, c2, c3, c4, c5, c6, c7⟩ := dev_cells hm
  clear h hm c0 c1 c3 c4 c5 c6 c7
  go_enter Try.func25, Try.ntmps25
  go_wp2
  go_ret
  exact ⟨rfl, rfl⟩
theorem Calls_any (wb w : World) (R : HP) (g : Nat) (D : Dev) (ka : Option Addr) (kn kc : Nat) (h : Mem wb w (dev0 T8 g D ka kn kc * R)) :
    Calls Try.prog 53 #[.pointer (some ⟨g, 0, none⟩)] w fun e w' => e = .returned (.int .i64 D.calls) ∧ w = w' := by
  obtain ⟨ia, ic, pa, pc, hm⟩ := Mem.dev0.1 h
  obtain ⟨c0, c1, c2, c3, c4, c5, c6, c7⟩ := dev_cells hm
  clear h hm c0 c1 c3 c4 c5 c6 c2
  go_enter Try.func53, Try.ntmps53
  go_wp2
  go_ret
  exact ⟨rfl, rfl⟩
theorem Up_any (wb w : World) (R : HP) (g : Nat) (D : Dev) (ka : Option Addr) (kn kc : Nat) (h : Mem wb w (dev0 T8 g D ka kn kc * R)) :
    Calls Try.prog 28 #[.pointer (some ⟨g, 0, none⟩)] w fun e w' => e = .returned (.int .i64 0) ∧ Mem wb w' (dev0 T8 g D.up ka kn kc * R) := by
  obtain ⟨ia, ic, pa, pc, hm⟩ := Mem.dev0.1 h
  obtain ⟨c0, c1, c2, c3, c4, c5, c6, c7⟩ := dev_cells hm
  obtain ⟨f0, f1, f2, f3, f4, f5, f6, f7⟩ := dev_free hm
  have HM := hid hm
  clear h hm
  go_enter Try.func28, Try.ntmps28
  go_wp2
  go_ret
  refine ⟨rfl, Mem.dev0.2 ⟨ia, ic, pa, pc, ?_⟩⟩
  have := (HM.out.setCell 2 (.bool false)).setCell 3 (.int .i64 0)
  simpa [devCells, Dev.up] using this

theorem keeps_any (w : World) (l : Loss) (ka : Option Addr) (kc : Nat) (hs : Sl w ka l.keep.length kc (u64s l.keep)) (hb : ∀ x ∈ l.keep, x < 18446744073709551616) (k : Nat) (hk : k ≤ 9223372036854775807) :
    Calls Try.prog 56 #[.agg #[.slice ka l.keep.length kc, .int .i64 l.torn, .int .i64 l.off], .int .i64 (k : Int)] w fun e w' => e = .returned (.bool (kept l k)) ∧ Fr w.heap.size [] w w' := by
  have HK : Hid (kept l k = (decide (k / 64 < l.keep.length) && (l.keep.getD (k / 64) 0 / 2 ^ (k % 64) % 2 == 1))) := rfl
  generalize kept l k = q at *
  have hle := hs.le
  have hcap := hs.cap
  by_cases hlt : k / 64 < l.keep.length
  · obtain ⟨b, o, rfl⟩ := hs.addr (by omega)
    have hc := hs.at (k / 64) hlt
    simp only [u64s, List.getElem_map] at hc
    have hx := hb (l.keep[k / 64]) (List.getElem_mem _)
    have hg : Hid (l.keep.getD (k / 64) 0 = l.keep[k / 64]) := by
      show _ = _
      rw [List.getD_eq_getElem?_getD, List.getElem?_eq_getElem hlt]; rfl
    generalize l.keep[k / 64] = x at *
    generalize l.keep.length = n at *
    clear hs hb
    have hd : (k : Int) / 64 < (n : Int) := by omega
    obtain ⟨m, hm⟩ : ∃ m, m = k / 64 := ⟨_, rfl⟩
    have hmi : (k : Int) / 64 = (m : Int) := by omega
    obtain ⟨r, hr⟩ : ∃ r, r = k % 64 := ⟨_, rfl⟩
    have hri : (k : Int) % 64 = (r : Int) := by omega
    have hr64 : r < 64 := by omega
    rw [← hm] at hc hlt hg HK
    rw [← hr] at HK
    rw [hmi] at hd
    clear hm hr
    have hc' : ∀ o : Obj, (w.alloc o).cell? _ = _ := fun o => Fr.cell_ext (w := w) (by repeat (first | exact Fr.refl _ _ _ | assumption | apply Fr.drew | (refine Fr.drewN ?_ _) | (refine Fr.alloc ?_ (by first | omega | (simp; done) | (simp; omega)) _) | (refine Fr.setCell ?_ (by first | (left; simp; done) | (right; simp; done) | (right; simp; omega)) _))) hc
    clear hc
    go_enter Try.func56, Try.ntmps56
    go_wp2
    go_ret
    refine ⟨?_, (by repeat (first | exact Fr.refl _ _ _ | assumption | apply Fr.drew | (refine Fr.drewN ?_ _) | (refine Fr.alloc ?_ (by first | omega | (simp; done) | (simp; omega)) _) | (refine Fr.setCell ?_ (by first | (left; simp; done) | (right; simp; done) | (right; simp; omega)) _)))⟩
    show Ending.returned (Value.bool (bits BinOp.and IntKind.u64 ((x : Int) / 2 ^ r) 1 == 1)) = _
    rw [HK.out, kept_bit x r hx, hg.out]
    simp [hlt]
  · have hf := hid hlt
    generalize l.keep.length = n at *
    clear hs hb
    go_enter Try.func56, Try.ntmps56
    go_wp2
    go_ret
    exact ⟨by rw [HK.out]; simp [hf.out], (by repeat (first | exact Fr.refl _ _ _ | assumption | apply Fr.drew | (refine Fr.drewN ?_ _) | (refine Fr.alloc ?_ (by first | omega | (simp; done) | (simp; omega)) _) | (refine Fr.setCell ?_ (by first | (left; simp; done) | (right; simp; done) | (right; simp; omega)) _)))⟩
end Go.Proofs.Ytpdppacafkdgdaa

/- The walk of a crash (package sectors). -/
set_option linter.unusedVariables false
set_option linter.unusedSimpArgs false
namespace Go.Le
open Go Go.RowKit
theorem pz_cells (zs : List Pz) (k : Nat) (z : Pz) (h : zs[k]? = some z) : (pzCells zs)[k * 2]? = some (.int .i64 (z.1.1 : Int)) ∧ (pzCells zs)[k * 2 + 1]? = some (.slice z.2.1 z.1.2.length z.2.2) := flat2 _ _ zs k z h
theorem put_length (img : List UInt8) (p : Nat × List UInt8) (n : Nat) (h : p.1 * 512 + 512 ≤ img.length) (hp : p.2.length = 512) : (put img p n).length = img.length := splice_length _ _ _ (by rw [List.length_take]; omega)
theorem fall_drop (l : Loss) (pend : List (Nat × List UInt8)) (k : Nat) (p : Nat × List UInt8) (h : pend[k]? = some p) (img : List UInt8) : fallFrom l k img (pend.drop k) = fallFrom l (k + 1) (put img p (remains l k)) (pend.drop (k + 1)) := by
  have hk := (List.getElem?_eq_some_iff.1 h)
  obtain ⟨h1, h2⟩ := hk
  rw [List.drop_eq_getElem_cons h1, h2]
  rfl
end Go.Le
namespace Go.Proofs.Ytpdppacafkdgdaa
open Go Go.RowKit Go.Le

set_option maxRecDepth 20000 in
set_option maxHeartbeats 1000000 in
theorem fall_any (wb w : World) (R : HP) (g : Nat) (D : Dev) (ka : Option Addr) (kn kc : Nat) (h : Mem wb w (dev0 T8 g D ka kn kc * R)) (hok : D.ok) (hpl : D.pend.length ≤ 4294967296)
    (l : Loss) (la : Option Addr) (lc : Nat) (hs : ∀ w', Mem wb w' R → Sl w' la l.keep.length lc (u64s l.keep)) (hb : ∀ x ∈ l.keep, x < 18446744073709551616) (ht : -9223372036854775808 ≤ l.torn ∧ l.torn ≤ 9223372036854775807) (ho : -9223372036854775808 ≤ l.off ∧ l.off ≤ 9223372036854775807) :
    Calls Try.prog 36 #[.pointer (some ⟨g, 0, none⟩), .agg #[.slice la l.keep.length lc, .int .i64 l.torn, .int .i64 l.off]] w fun e w' => e = .returned (.tuple #[]) ∧ Mem wb w' (dev0 T8 g (D.fall l) ka kn kc * R) := by
  obtain ⟨ia, ic, pa, pc, hm⟩ := Mem.dev0.1 h
  obtain ⟨zs, hz, hm⟩ := Mem.pends.1 hm.p2
  obtain ⟨ni, hni, hn1, hn2⟩ := hok.img
  have hil : D.img.length ≤ 2097152 := by omega
  have hzl : zs.length = D.pend.length := by rw [← hz]; simp
  obtain ⟨gi, -, rfl, -, i1, i2, -⟩ := hm.p3.row_at (by omega)
  -- the loss, boxed
  have hm1 := hm.alloc [.slice la l.keep.length lc, .int .i64 l.torn, .int .i64 l.off] 38
  have c1 := (dev_cells hm1.p3).2.1
  clear h hm
  have HZ := hid hz
  have HZL := hid hzl
  have HOK := hid hok
  have HS := hid hs
  have HB := hid hb
  have H1 := hid hm1
  clear hz hzl hok hs hb hm1 hni
  generalize hnl : D.pend.length = n at *
  have HN := hid hnl
  clear hnl
  go_enter Try.func36, Try.ntmps36
  go_wp2
  go_loopw [12] (fun i wr => ∃ (k : Nat) (img : List UInt8), k ≤ n ∧ i = .int .i64 k ∧ img.length = D.img.length ∧ fallFrom l k img (D.pend.drop k) = fallFrom l 0 D.img D.pend ∧
    Mem wb wr (pts w.heap.size 38 [.slice la l.keep.length lc, .int .i64 l.torn, .int .i64 l.off] * (row T8.pe 2 pa n pc (pzCells zs) * (all (zs.map (pzRow T8.u8)) * (pts g T8.dv (devCells D (some ⟨gi, 0, none⟩) ic pa pc ka kn kc) * (row T8.u8 1 (some ⟨gi, 0, none⟩) img.length ic (byts img) * R)))))) (fun i _ => n - (intOf i).toNat)
  case atStart => exact ⟨0, D.img, by omega, rfl, rfl, rfl, by have := H1.out; exact this⟩
  case round =>
    obtain ⟨k, img, hk, rfl, hi, hf, hm⟩ := hrel
    have HI := hid hi
    have HF := hid hf
    clear hi hf
    by_cases hlt : k < n
    · obtain ⟨gp, rest, rfl, r1, r2, r3, r4, hmp⟩ := hm.p1.row_at (by omega)
      obtain ⟨z, hz⟩ : ∃ z, zs[k]? = some z := ⟨zs[k]'(by rw [HZL.out]; exact hlt), List.getElem?_eq_getElem _⟩
      have hpk := pz_cells zs k z hz
      have hp0 := hmp.cell (k * 2)
      have hp1 := hmp.cell (k * 2 + 1)
      rw [List.getElem?_append_left (by rw [r1]; omega)] at hp0 hp1
      rw [hpk.1] at hp0
      rw [hpk.2] at hp1
      have HZK := hid hz
      have hpz : D.pend[k]? = some z.1 := by rw [← HZ.out, List.getElem?_map, hz]; rfl
      have hzo := HOK.out.pend z.1 (List.mem_of_getElem? hpz)
      have HPZ := hid hpz
      obtain ⟨zs1, zs2⟩ := hzo
      have ZL := hid zs2
      rw [zs2] at hp1
      have HMP := hid hmp
      have HM := hid hm
      obtain ⟨⟨si, bs⟩, ba, bc⟩ := z
      simp only at hp0 hp1 zs1 zs2
      have b0 : ∀ o : Obj, (wr.alloc o).cell? _ = _ := fun o => (HM.out.alloc' o).cell 0
      have b1 : ∀ o : Obj, (wr.alloc o).cell? _ = _ := fun o => (HM.out.alloc' o).cell 1
      have b2 : ∀ o : Obj, (wr.alloc o).cell? _ = _ := fun o => (HM.out.alloc' o).cell 2
      simp only [List.getElem?_cons_zero, List.getElem?_cons_succ] at b0 b1 b2
      clear hpk hz hpz hmp hm r1 r4 zs2
      have hM1 := HM.out.alloc [.int .i64 (si : Int), .slice ba 512 bc] T8.pe
      have HM1 := hid hM1
      clear hM1
      go_wp2_with fail
      refine (keeps_any _ l la lc (HS.out _ HM1.out.right.right.right.right.right.right) HB.out k (by omega)).mono ?_
      rintro e w2 ⟨rfl, hf2⟩
      have hM2 := HM1.out.fr hf2
      have HM2 := hid hM2
      clear hM2 HM1 b0 b1 b2 hf2
      have b0 := HM2.out.cell 0
      have b1 := HM2.out.cell 1
      have d1 := HM2.out.p1.cell 1
      have d2 := HM2.out.p1.cell 2
      simp only [List.getElem?_cons_zero, List.getElem?_cons_succ] at b0 b1 d1 d2
      obtain ⟨rest2, -, -, j1, -, -, j4, hmi⟩ := Mem.row_some.1 HM2.out.p5
      obtain ⟨Az, hmz⟩ := Mem.pz HM2.out.p3 HZK.out
      have hsz := hmz.row_sl
      simp only at hsz
      rw [ZL.out] at hsz
      have HSZ := hid hsz
      have zle := hsz.le
      have zlei : (512 : Int) ≤ (bc : Int) := by omega
      have zcp := hsz.cap
      have HMI := hid hmi
      have J1 := hid j4
      clear hsz hmz hmi j1 j4
      by_cases hkp : kept l k = true
      · have HL : Hid (remains l k = 512) := by show _ = _; simp [remains, hkp]
        go_wp2_with fail
        have HT9 := hid (HSZ.out.take (512) (by omega)).drew
        have hfit9 : Hid (si * 512 + (512) ≤ (byts img ++ rest2).length) := by
          show _ ≤ _
          have hi9 := HI.out
          simp only [List.length_append, byts_length]
          omega
        go_region_law (first | ((with_reducible show (if Region.wanted (Oper.mk (some 38) _ _ _ _ _) _ = true then _ else _)); refine step_copy (by rfl) (.tmp 33) (.tmp 37) 34 34 (by rfl) Try.underlying34 u8size (by rfl) (by rfl) HMI.out.drew (by rfl) (si * 512) (512) (by show _ = min _ _; omega) (fun h9 => by first | exact absurd h9 (by decide) | rfl) hfit9.out HT9.out (fun u hu => byts_oneCell _ u (List.mem_of_mem_take hu)) ?_; intro w4 hm4) | (go_simp; go_at_call 44; refine (sector_any wb _ _ g D gi (some ⟨gp, 0, none⟩) ka ic pc kn kc (by first | exact HM2.out.p4 | exact HM2.out.p4.drew) hil i1 i2 si (by omega)).mono ?_; rintro e w3 ⟨rfl, rfl⟩))
        all_goals
          rw [List.take_take, Nat.min_self] at hm4
          have hm5 := Mem.img_back (img' := put img (si, bs) (remains l k)) hm4 (by rw [HI.out]; omega) (by rw [show bs.length = 512 from ZL.out]; omega) (by rw [HI.out]; exact i1) i2 J1.out (by rw [HL.out]; rfl)
          have HM5 := hid hm5
          clear hm4 hm5
          go_wp2_with fail
          go_roundw
          case rel => exact ⟨k + 1, put img (si, bs) (remains l k), by omega, by go_num, by rw [put_length _ _ _ (by rw [HI.out]; exact zs1) ZL.out]; exact HI.out, by rw [← fall_drop l D.pend k _ HPZ.out img]; exact HF.out, HM5.out.p1.right.q4⟩
          case measure => simp [intOf] <;> omega
      · have hkf : kept l k = false := by simpa using hkp
        clear hkp
        by_cases htn : (k : Int) = l.torn
        · have HL : Hid (remains l k = (min (max l.off 0) 512).toNat) := by show _ = _; simp [remains, hkf, htn]
          have htb : ((k : Int) == l.torn) = true := by simpa using htn
          clear htn
          by_cases o1 : l.off < 0
          · replace HL : Hid (remains l k = 0) := by show _ = _; rw [HL.out]; omega
            go_wp2_with fail
            have HT9 := hid (HSZ.out.take (0) (by omega)).drew
            have hfit9 : Hid (si * 512 + (0) ≤ (byts img ++ rest2).length) := by
              show _ ≤ _
              have hi9 := HI.out
              simp only [List.length_append, byts_length]
              omega
            go_region_law (first | ((with_reducible show (if Region.wanted (Oper.mk (some 38) _ _ _ _ _) _ = true then _ else _)); refine step_copy (by rfl) (.tmp 33) (.tmp 37) 34 34 (by rfl) Try.underlying34 u8size (by rfl) (by rfl) HMI.out.drew (by rfl) (si * 512) (0) (by show _ = min _ _; omega) (fun h9 => by first | exact absurd h9 (by decide) | rfl) hfit9.out HT9.out (fun u hu => byts_oneCell _ u (List.mem_of_mem_take hu)) ?_; intro w4 hm4) | (go_simp; go_at_call 44; refine (sector_any wb _ _ g D gi (some ⟨gp, 0, none⟩) ka ic pc kn kc (by first | exact HM2.out.p4 | exact HM2.out.p4.drew) hil i1 i2 si (by omega)).mono ?_; rintro e w3 ⟨rfl, rfl⟩))
            all_goals
              rw [List.take_take, Nat.min_self] at hm4
              have hm5 := Mem.img_back (img' := put img (si, bs) (remains l k)) hm4 (by rw [HI.out]; omega) (by rw [show bs.length = 512 from ZL.out]; omega) (by rw [HI.out]; exact i1) i2 J1.out (by rw [HL.out]; rfl)
              have HM5 := hid hm5
              clear hm4 hm5
              go_wp2_with fail
              go_roundw
              case rel => exact ⟨k + 1, put img (si, bs) (remains l k), by omega, by go_num, by rw [put_length _ _ _ (by rw [HI.out]; exact zs1) ZL.out]; exact HI.out, by rw [← fall_drop l D.pend k _ HPZ.out img]; exact HF.out, HM5.out.p1.right.q4⟩
              case measure => simp [intOf] <;> omega
          · by_cases o2 : 512 < l.off
            · replace HL : Hid (remains l k = 512) := by show _ = _; rw [HL.out]; omega
              go_wp2_with fail
              have HT9 := hid (HSZ.out.take (512) (by omega)).drew
              have hfit9 : Hid (si * 512 + (512) ≤ (byts img ++ rest2).length) := by
                show _ ≤ _
                have hi9 := HI.out
                simp only [List.length_append, byts_length]
                omega
              go_region_law (first | ((with_reducible show (if Region.wanted (Oper.mk (some 38) _ _ _ _ _) _ = true then _ else _)); refine step_copy (by rfl) (.tmp 33) (.tmp 37) 34 34 (by rfl) Try.underlying34 u8size (by rfl) (by rfl) HMI.out.drew (by rfl) (si * 512) (512) (by show _ = min _ _; omega) (fun h9 => by first | exact absurd h9 (by decide) | rfl) hfit9.out HT9.out (fun u hu => byts_oneCell _ u (List.mem_of_mem_take hu)) ?_; intro w4 hm4) | (go_simp; go_at_call 44; refine (sector_any wb _ _ g D gi (some ⟨gp, 0, none⟩) ka ic pc kn kc (by first | exact HM2.out.p4 | exact HM2.out.p4.drew) hil i1 i2 si (by omega)).mono ?_; rintro e w3 ⟨rfl, rfl⟩))
              all_goals
                rw [List.take_take, Nat.min_self] at hm4
                have hm5 := Mem.img_back (img' := put img (si, bs) (remains l k)) hm4 (by rw [HI.out]; omega) (by rw [show bs.length = 512 from ZL.out]; omega) (by rw [HI.out]; exact i1) i2 J1.out (by rw [HL.out]; rfl)
                have HM5 := hid hm5
                clear hm4 hm5
                go_wp2_with fail
                go_roundw
                case rel => exact ⟨k + 1, put img (si, bs) (remains l k), by omega, by go_num, by rw [put_length _ _ _ (by rw [HI.out]; exact zs1) ZL.out]; exact HI.out, by rw [← fall_drop l D.pend k _ HPZ.out img]; exact HF.out, HM5.out.p1.right.q4⟩
                case measure => simp [intOf] <;> omega
            · replace HL : Hid (remains l k = l.off.toNat) := by show _ = _; rw [HL.out]; omega
              have o3 : l.off ≤ (bc : Int) := by omega
              go_wp2_with fail
              have HT9 := hid (HSZ.out.take (l.off.toNat) (by omega)).drew
              have hfit9 : Hid (si * 512 + (l.off.toNat) ≤ (byts img ++ rest2).length) := by
                show _ ≤ _
                have hi9 := HI.out
                simp only [List.length_append, byts_length]
                omega
              go_region_law (first | ((with_reducible show (if Region.wanted (Oper.mk (some 38) _ _ _ _ _) _ = true then _ else _)); refine step_copy (by rfl) (.tmp 33) (.tmp 37) 34 34 (by rfl) Try.underlying34 u8size (by rfl) (by rfl) HMI.out.drew (by rfl) (si * 512) (l.off.toNat) (by show _ = min _ _; omega) (fun h9 => by first | exact absurd h9 (by decide) | rfl) hfit9.out HT9.out (fun u hu => byts_oneCell _ u (List.mem_of_mem_take hu)) ?_; intro w4 hm4) | (go_simp; go_at_call 44; refine (sector_any wb _ _ g D gi (some ⟨gp, 0, none⟩) ka ic pc kn kc (by first | exact HM2.out.p4 | exact HM2.out.p4.drew) hil i1 i2 si (by omega)).mono ?_; rintro e w3 ⟨rfl, rfl⟩))
              all_goals
                rw [List.take_take, Nat.min_self] at hm4
                have hm5 := Mem.img_back (img' := put img (si, bs) (remains l k)) hm4 (by rw [HI.out]; omega) (by rw [show bs.length = 512 from ZL.out]; omega) (by rw [HI.out]; exact i1) i2 J1.out (by rw [HL.out]; rfl)
                have HM5 := hid hm5
                clear hm4 hm5
                go_wp2_with fail
                go_roundw
                case rel => exact ⟨k + 1, put img (si, bs) (remains l k), by omega, by go_num, by rw [put_length _ _ _ (by rw [HI.out]; exact zs1) ZL.out]; exact HI.out, by rw [← fall_drop l D.pend k _ HPZ.out img]; exact HF.out, HM5.out.p1.right.q4⟩
                case measure => simp [intOf] <;> omega
        · have HL : Hid (remains l k = 0) := by show _ = _; simp [remains, hkf, htn]
          have htb : ((k : Int) == l.torn) = false := by simpa using htn
          clear htn
          go_wp2_with fail
          have HT9 := hid (HSZ.out.take (0) (by omega)).drew
          have hfit9 : Hid (si * 512 + (0) ≤ (byts img ++ rest2).length) := by
            show _ ≤ _
            have hi9 := HI.out
            simp only [List.length_append, byts_length]
            omega
          go_region_law (first | ((with_reducible show (if Region.wanted (Oper.mk (some 38) _ _ _ _ _) _ = true then _ else _)); refine step_copy (by rfl) (.tmp 33) (.tmp 37) 34 34 (by rfl) Try.underlying34 u8size (by rfl) (by rfl) HMI.out.drew (by rfl) (si * 512) (0) (by show _ = min _ _; omega) (fun h9 => by first | exact absurd h9 (by decide) | rfl) hfit9.out HT9.out (fun u hu => byts_oneCell _ u (List.mem_of_mem_take hu)) ?_; intro w4 hm4) | (go_simp; go_at_call 44; refine (sector_any wb _ _ g D gi (some ⟨gp, 0, none⟩) ka ic pc kn kc (by first | exact HM2.out.p4 | exact HM2.out.p4.drew) hil i1 i2 si (by omega)).mono ?_; rintro e w3 ⟨rfl, rfl⟩))
          all_goals
            rw [List.take_take, Nat.min_self] at hm4
            have hm5 := Mem.img_back (img' := put img (si, bs) (remains l k)) hm4 (by rw [HI.out]; omega) (by rw [show bs.length = 512 from ZL.out]; omega) (by rw [HI.out]; exact i1) i2 J1.out (by rw [HL.out]; rfl)
            have HM5 := hid hm5
            clear hm4 hm5
            go_wp2_with fail
            go_roundw
            case rel => exact ⟨k + 1, put img (si, bs) (remains l k), by omega, by go_num, by rw [put_length _ _ _ (by rw [HI.out]; exact zs1) ZL.out]; exact HI.out, by rw [← fall_drop l D.pend k _ HPZ.out img]; exact HF.out, HM5.out.p1.right.q4⟩
            case measure => simp [intOf] <;> omega
    · obtain rfl : k = n := by omega
      have hd := hm.p3
      obtain ⟨e0, e1, e2, e3, e4, e5, e6, e7⟩ := dev_cells hd
      obtain ⟨f0, f1, f2, f3, f4, f5, f6, f7⟩ := dev_free hd
      have HD := hid hd
      clear hd hm
      go_wp2_with fail
      go_end0
      refine ⟨rfl, Mem.dev0.2 ⟨some ⟨gi, 0, none⟩, ic, none, 0, ?_⟩⟩
      have hq := ((HD.out.setCell 1 (.slice none 0 0)).setCell 2 (.bool true)).setCell 3 (.int .i64 0)
      have hi' : (D.fall l).img = img := by
        have := HF.out
        rw [List.drop_of_length_le (by rw [HN.out]; exact Nat.le_refl _)] at this
        exact this.symm
      have hl' : (D.fall l).pend = [] := rfl
      rw [hi', hl']
      have e : devCells (D.fall l) (some ⟨gi, 0, none⟩) ic none 0 ka kn kc = (((devCells D (some ⟨gi, 0, none⟩) ic pa pc ka kn kc).set 1 (.slice none 0 0)).set 2 (.bool true)).set 3 (.int .i64 0) := by
        simp [devCells, Dev.fall]
        show (D.fall l).img.length = _
        rw [hi', HI.out]
      rw [e]
      exact (Mem.pends_nil hq.p1.right.p1.right.p1.right).q2
end Go.Proofs.Ytpdppacafkdgdaa

/- The walks of New, Load, Image, Crash, Arm (package sectors). -/
set_option linter.unusedVariables false
set_option linter.unusedSimpArgs false
namespace Go.Le
open Go Go.RowKit
theorem fresh_ok (img : List UInt8) (n : Nat) (h : img.length = n * 512) (h1 : 1 ≤ n) (h2 : n ≤ 4096) : (Dev.fresh img).ok :=
  ⟨⟨n, h, h1, h2⟩, by simp [Dev.fresh], by simp [Dev.fresh], by simp [Dev.fresh], by simp [Dev.fresh], by simp [Dev.fresh], by simp [Dev.fresh]⟩
theorem byts_zeros (n : Nat) : List.replicate n (Value.int .u8 0) = byts (List.replicate n 0) := by simp [byts, byt]
theorem fallFrom_length (l : Loss) : ∀ (k : Nat) (img : List UInt8) (pend : List (Nat × List UInt8)), (∀ p ∈ pend, p.1 * 512 + 512 ≤ img.length ∧ p.2.length = 512) → (fallFrom l k img pend).length = img.length
  | _, _, [], _ => rfl
  | k, img, p :: r, h => by
    have h1 := h p (by simp)
    have h2 := put_length img p (remains l k) h1.1 h1.2
    unfold fallFrom
    rw [fallFrom_length l (k + 1) _ r (fun q hq => by rw [h2]; exact h q (by simp [hq])), h2]
theorem Dev.fall_ok {D : Dev} (h : D.ok) (l : Loss) : (D.fall l).ok := by
  have e : (D.fall l).img.length = D.img.length := fallFrom_length l 0 D.img D.pend h.pend
  obtain ⟨n, h1, h2⟩ := h.img
  exact ⟨⟨n, by rw [e]; exact h1, h2⟩, by simp [Dev.fall], by simp [Dev.fall], h.torn, h.off, h.keep, h.calls⟩
theorem wrap64_range (x : Int) : -9223372036854775808 ≤ wrap64 x ∧ wrap64 x ≤ 9223372036854775807 := by unfold wrap64; omega
theorem Dev.count_ok {D : Dev} (h : D.ok) : D.count.ok := by
  have ha := h.armed
  refine ⟨h.img, h.pend, ?_, h.torn, h.off, h.keep, wrap64_range _⟩
  simp only [Dev.count]
  split <;> omega
theorem Dev.up_ok {D : Dev} (h : D.ok) : D.up.ok := ⟨h.img, h.pend, by simp [Dev.up], h.torn, h.off, h.keep, h.calls⟩
structure Loss.ok (l : Loss) : Prop where
  torn : -9223372036854775808 ≤ l.torn ∧ l.torn ≤ 9223372036854775807
  off : -9223372036854775808 ≤ l.off ∧ l.off ≤ 9223372036854775807
  keep : ∀ x ∈ l.keep, x < 18446744073709551616
theorem Dev.ok.lossOk {D : Dev} (h : D.ok) : D.loss.ok := ⟨h.torn, h.off, h.keep⟩
/-- a new device in memory -/
theorem Mem.devNew {wb w : World} {R : HP} {t : Ty} {g : Nat} {img : List UInt8} {ia : Option Addr} {ic : Nat} (hok : (Dev.fresh img).ok) (h : Mem wb w (pts g t.dv (devCells (Dev.fresh img) ia ic none 0 none 0 0) * (row t.u8 1 ia img.length ic (byts img) * R))) : Mem wb w (Le.devAt t g (Dev.fresh img) * R) := by
  refine Mem.devAt.2 ⟨hok, none, 0, Mem.dev0.2 ⟨ia, ic, none, 0, ?_⟩⟩
  have h1 : Mem wb w (keepAt t (none, 0) (Dev.fresh img).loss * (pts g t.dv (devCells (Dev.fresh img) ia ic none 0 none 0 0) * (row t.u8 1 ia img.length ic (byts img) * R))) :=
    Mem.row_none.2 ⟨rfl, rfl, rfl, h⟩
  exact (Mem.pends_nil h1.q2).q2
end Go.Le
namespace Go.Proofs.Ytpdppacafkdgdaa
open Go Go.RowKit Go.Le

theorem New_no (w : World) (n : Int) (hn : n < 1 ∨ 4096 < n) (hn1 : -9223372036854775808 ≤ n) (hn2 : n ≤ 9223372036854775807) :
    Calls Try.prog 21 #[.int .i64 n] w fun e w' => e = .returned (.tuple #[.pointer none, .int .i64 4]) ∧ w = w' := by
  by_cases h1 : n < 1
  · go_enter Try.func21, Try.ntmps21
    go_wp2
    go_ret2
    exact ⟨rfl, rfl⟩
  · have h2 : 4096 < n := by omega
    go_enter Try.func21, Try.ntmps21
    go_wp2
    go_ret2
    exact ⟨rfl, rfl⟩
theorem New_any0 (wb w : World) (R : HP) (h : Mem wb w R) (n : Nat) (h1 : 1 ≤ n) (h2 : n ≤ 4096) :
    Calls Try.prog 21 #[.int .i64 (n : Int)] w fun e w' => ∃ g, e = .returned (.tuple #[.pointer (some ⟨g, 0, none⟩), .int .i64 0]) ∧ Mem wb w' (devAt T8 g (Dev.fresh (List.replicate (n * 512) 0)) * R) := by
  have hmk := run_make_bytes (P := Try.prog) 34 5 Try.underlying34 u8info .i64 .i64 ((n : Int) * 512) (by omega) (by omega)
  have e5 : ((n : Int) * 512).toNat = n * 512 := by omega
  rw [e5] at hmk
  have H := hid h
  clear h e5
  go_enter Try.func21, Try.ntmps21
  go_wp2
  go_ret2
  refine ⟨w.heap.size + 1, rfl, ?_⟩
  have hd := (H.out.alloc (List.replicate (n * 512) (.int .u8 0)) 5).alloc (devCells (Dev.fresh (List.replicate (n * 512) 0)) (some ⟨w.heap.size, 0, none⟩) (n * 512) none 0 none 0 0) 74
  have e6 : (w.alloc (.cells (List.replicate (n * 512) (Value.int .u8 0)).toArray 5)).heap.size = w.heap.size + 1 := by simp
  rw [e6] at hd
  refine Mem.devNew (ia := some ⟨w.heap.size, 0, none⟩) (ic := n * 512) (fresh_ok _ n (by simp) h1 h2) ?_
  refine (Mem.of_row rfl (rest := []) (by rw [byts_length]; omega) (by simp) (by omega) (by simp [byts_length]) ?_).p1
  rw [List.append_nil, ← byts_zeros]
  simpa [devCells, Dev.fresh, T8] using hd.p1

theorem New_any (wb w : World) (R : HP) (h : Mem wb w R) (n : Nat) (h1 : 1 ≤ n) (h2 : n ≤ 4096) :
    Calls Try.prog 21 #[.int .i64 (n : Int)] w fun e w' => ∃ g, e = .returned (.tuple #[.pointer (some ⟨g, 0, none⟩), .int .i64 0]) ∧ Mem wb w' (devAt T8 g (Dev.fresh (zrs (n * 512))) * R) :=
  New_any0 wb w R h n h1 h2

theorem Clone_any (wb w : World) (R : HP) (h : Mem wb w R) (a : Option Addr) (n c : Nat) (l : List Nat) (hs : Sl w a n c (u64s l)) (hn : n ≤ 1000000000) :
    Calls Try.prog 42 #[.slice a n c] w fun e w' => ∃ a' c', e = .returned (.slice a' n c') ∧ Mem wb w' (row 39 1 a' n c' (u64s l) * R) := by
  have H := hid h
  have S := hid hs
  clear h hs
  have hnil := fun (w : World) (a : Option Addr) (n c : Nat) => Lib.run_eql_slice_nil (P := Try.prog) w 36 39 a n c 0 0 Try.underlying36
  cases a with
  | none =>
    obtain ⟨rfl, rfl⟩ := news_nil S.out rfl
    have hl : l = [] := by have := S.out.len; simpa [u64s] using this
    subst hl
    clear S
    go_enter Try.func42, Try.ntmps42
    go_wp2_with fail
    go_ret
    exact ⟨none, 0, rfl, Mem.row_none.2 ⟨rfl, rfl, rfl, H.out⟩⟩
  | some p =>
    obtain ⟨i, hi, hz, hsz, hby⟩ := info_parts u64info
    have JI := hid hi
    have JZ := hid hz
    have JS := hid hsz
    have JB := hid hby
    clear hi hz hsz hby
    have hm1 := hid (Mem.of_row (a := some ⟨w.heap.size, 0, none⟩) (s := 1) (n := 0) (c := 0) (xs := []) (rest := []) rfl rfl (Nat.le_refl _) (by omega) (by simp) (H.out.alloc [] 39))
    go_enter Try.func42, Try.ntmps42
    go_wp2_with ((with_reducible show wpList _ _ _ (Oper.mk (some 7) _ _ _ _ _ :: _) _ _); refine wpList_append (by rfl) (.tmp 5) (.tmp 6) 36 (by rfl) Try.underlying36 JI.out JZ.out JS.out JB.out (by rfl) (by omega) (by rfl) (by rfl) hm1.out rfl (by rw [S.out.len, Nat.mul_one]) (news_sl (S.out.ext (by repeat (first | exact Fr.refl _ _ _ | assumption | apply Fr.drew | (refine Fr.drewN ?_ _) | (refine Fr.alloc ?_ (by first | omega | (simp; done) | (simp; omega)) _) | (refine Fr.setCell ?_ (by first | (left; simp; done) | (right; simp; done) | (right; simp; omega)) _))))) (news_nil S.out) (by simp [u64s]; intros; rfl) (by omega) (by omega) ?_)
    intro a' c' w' hm2 _ _
    go_wp2
    go_ret
    have := hm2.duo_row
    simp only [Nat.zero_add, List.nil_append] at this ⊢
    exact ⟨a', c', rfl, this⟩

theorem Image_any (wb w : World) (R : HP) (g : Nat) (D : Dev) (ka : Option Addr) (kn kc : Nat) (h : Mem wb w (dev0 T8 g D ka kn kc * R)) (hk : D.ok) :
    Calls Try.prog 16 #[.pointer (some ⟨g, 0, none⟩)] w fun e w' => ∃ a c, e = .returned (.slice a D.img.length c) ∧ Mem wb w' (row 5 1 a D.img.length c (byts D.img) * (dev0 T8 g D ka kn kc * R)) := by
  obtain ⟨ia, ic, pa, pc, hm⟩ := Mem.dev0.1 h
  obtain ⟨n, hn, h1, h2⟩ := hk.img
  have hl : D.img.length ≤ 2097152 := by omega
  obtain ⟨gi, rest, rfl, -, i1, i2, -, -⟩ := hm.p1.row_at (by omega)
  have hmk := run_make_bytes (P := Try.prog) 34 5 Try.underlying34 u8info .i64 .i64 (D.img.length : Int) (by omega) (by omega)
  rw [Int.toNat_natCast] at hmk
  have c0 := hm.cell 0
  simp only [devCells, List.getElem?_cons_zero] at c0
  have c0' : ∀ o : Obj, (w.alloc o).cell? _ = _ := fun o => Fr.cell_ext (w := w) (by repeat (first | exact Fr.refl _ _ _ | assumption | apply Fr.drew | (refine Fr.drewN ?_ _) | (refine Fr.alloc ?_ (by first | omega | (simp; done) | (simp; omega)) _) | (refine Fr.setCell ?_ (by first | (left; simp; done) | (right; simp; done) | (right; simp; omega)) _))) c0
  have HS := hid hm.p1.row_sl
  have HM := hid (h.alloc (List.replicate D.img.length (.int .u8 0)) 5)
  clear hm h hk hn h1 h2 rest
  generalize hL : D.img.length = L at *
  have HLL := hid hL
  clear hL
  go_enter Try.func16, Try.ntmps16
  go_wp2_with ((with_reducible show wpList _ _ _ (Oper.mk (some 15) _ _ _ _ _ :: _) _ _); refine wpList_copy (by rfl) (.tmp 10) (.tmp 14) 34 34 (by rfl) Try.underlying34 u8size (by rfl) (by rfl) HM.out (by rfl) 0 L (by show _ = min _ _; omega) (fun _ => rfl) (by simp) (HS.out.ext (by repeat (first | exact Fr.refl _ _ _ | assumption | apply Fr.drew | (refine Fr.drewN ?_ _) | (refine Fr.alloc ?_ (by first | omega | (simp; done) | (simp; omega)) _) | (refine Fr.setCell ?_ (by first | (left; simp; done) | (right; simp; done) | (right; simp; omega)) _)))) (byts_oneCell _) ?_; intro w2 hm2)
  go_ret
  refine ⟨_, L, rfl, ?_⟩
  have e : splice (List.replicate L (Value.int .u8 0)) 0 ((byts D.img).take L) = byts D.img := by
    have hb : (byts D.img).length = L := by rw [byts_length, HLL.out]
    simp [splice, ← hb]
  rw [e] at hm2
  exact Mem.of_row (rest := []) rfl (by rw [byts_length, HLL.out]; omega) (Nat.le_refl _) (by omega) (by simp [byts_length, HLL.out]) (by simpa using hm2)

theorem Crash_any (wb w : World) (R : HP) (g : Nat) (D : Dev) (h : Mem wb w (devAt T8 g D * R)) (hpl : D.pend.length ≤ 4294967296)
    (l : Loss) (la : Option Addr) (lc : Nat) (hs : ∀ w', Mem wb w' R → Sl w' la l.keep.length lc (u64s l.keep)) (hl : l.ok) :
    Calls Try.prog 15 #[.pointer (some ⟨g, 0, none⟩), .agg #[.slice la l.keep.length lc, .int .i64 l.torn, .int .i64 l.off]] w fun e w' => e = .returned (.int .i64 (D.crash l).2) ∧ Mem wb w' (devAt T8 g (D.crash l).1 * R) := by
  have HH := hid h
  obtain ⟨hok, ka, kc, h1⟩ := Mem.devAt.1 h
  obtain ⟨ia, ic, pa, pc, hm⟩ := Mem.dev0.1 h1
  obtain ⟨-, -, c2, -⟩ := dev_cells hm
  have c2' : ∀ o : Obj, (w.alloc o).cell? _ = _ := fun o => Fr.cell_ext (w := w) (by repeat (first | exact Fr.refl _ _ _ | assumption | apply Fr.drew | (refine Fr.drewN ?_ _) | (refine Fr.alloc ?_ (by first | omega | (simp; done) | (simp; omega)) _) | (refine Fr.setCell ?_ (by first | (left; simp; done) | (right; simp; done) | (right; simp; omega)) _))) c2
  have H1 := hid h1
  have HOK := hid hok
  have HS := hid hs
  have HK := hid hl
  have HC : Hid (D.crash l = if D.down then (D, 80) else (D.fall l, 0)) := rfl
  clear h h1 hok hs hl hm
  generalize D.crash l = q at *
  cases hd : D.down
  all_goals
    rw [hd] at c2 c2' HC
    have HD := hid hd
    clear hd
  · simp only [Bool.false_eq_true, if_false] at HC
    obtain rfl := HC.out
    go_enter Try.func15, Try.ntmps15
    go_wp2_with fail
    refine (fall_any wb _ (keepAt T8 (ka, kc) D.loss * R) g D ka _ kc (H1.out.alloc' _) HOK.out hpl l la lc (fun w' hw => HS.out w' hw.right) HK.out.keep HK.out.torn HK.out.off).mono ?_
    rintro e w2 ⟨rfl, hm2⟩
    dsimp only
    go_wp2
    go_ret
    exact ⟨rfl, Mem.devAt.2 ⟨Dev.fall_ok HOK.out l, ka, kc, hm2⟩⟩
  · simp only [if_true] at HC
    obtain rfl := HC.out
    go_enter Try.func15, Try.ntmps15
    go_wp2
    go_ret
    exact ⟨rfl, HH.out.alloc' _⟩
end Go.Proofs.Ytpdppacafkdgdaa

/- The walks of Load, Arm, Write, Flush (package sectors). -/
set_option linter.unusedVariables false
set_option linter.unusedSimpArgs false
namespace Go.Proofs.Ytpdppacafkdgdaa
open Go Go.RowKit Go.Le

theorem Load_no (w : World) (a : Option Addr) (n c : Nat) (l : List UInt8) (hs : Sl w a n c (byts l)) (hn : ¬ ∃ k, n = k * 512 ∧ 1 ≤ k ∧ k ≤ 4096) :
    Calls Try.prog 30 #[.slice a n c] w fun e w' => e = .returned (.tuple #[.pointer none, .int .i64 83]) ∧ w = w' := by
  have h1 := hs.le
  have h2 := hs.cap
  clear hs
  have hz : n = 0 ∨ (n ≠ 0 ∧ n % 512 ≠ 0) ∨ (n ≠ 0 ∧ n % 512 = 0 ∧ 4096 < n / 512) := by
    by_cases h0 : n = 0
    · exact .inl h0
    · by_cases h1 : n % 512 = 0
      · refine .inr (.inr ⟨h0, h1, ?_⟩)
        by_cases h3 : 4096 < n / 512
        · exact h3
        · exact absurd ⟨n / 512, by omega, by omega, by omega⟩ hn
      · exact .inr (.inl ⟨h0, h1⟩)
  clear hn
  rcases hz with rfl | ⟨h0, h3⟩ | ⟨h0, h3, h4⟩
  · go_enter Try.func30, Try.ntmps30
    go_wp2
    go_ret2
    exact ⟨rfl, rfl⟩
  · have b0 : ((n : Int) == 0) = false := by simpa using h0
    have b1 : ((n : Int) % 512 != 0) = true := by simp; omega
    go_enter Try.func30, Try.ntmps30
    go_wp2
    go_ret2
    exact ⟨rfl, rfl⟩
  · have b0 : ((n : Int) == 0) = false := by simpa using h0
    have b1 : ((n : Int) % 512 != 0) = false := by simp; omega
    have b2 : (4096 : Int) < (n : Int) / 512 := by omega
    go_enter Try.func30, Try.ntmps30
    go_wp2
    go_ret2
    exact ⟨rfl, rfl⟩

theorem Load_any (wb w : World) (R : HP) (h : Mem wb w R) (a : Option Addr) (n c : Nat) (l : List UInt8) (hs : Sl w a n c (byts l)) (hn : ∃ k, n = k * 512 ∧ 1 ≤ k ∧ k ≤ 4096) :
    Calls Try.prog 30 #[.slice a n c] w fun e w' => ∃ g, e = .returned (.tuple #[.pointer (some ⟨g, 0, none⟩), .int .i64 0]) ∧ Mem wb w' (devAt T8 g (Dev.fresh l) * R) := by
  have h1 := hs.le
  have h2 := hs.cap
  have hlen := hs.len
  rw [byts_length] at hlen
  obtain ⟨k, hk, hk1, hk2⟩ := hn
  have b0 : ((n : Int) == 0) = false := by simp; omega
  have b1 : ((n : Int) % 512 != 0) = false := by simp; omega
  have b2 : ¬ (4096 : Int) < (n : Int) / 512 := by omega
  have hmk := run_make_bytes (P := Try.prog) 34 5 Try.underlying34 u8info .i64 .i64 (n : Int) (by omega) (by omega)
  rw [Int.toNat_natCast] at hmk
  have hok := fresh_ok l k (by omega) hk1 hk2
  have hd := (h.alloc (List.replicate n (.int .u8 0)) 5).alloc (devCells (Dev.fresh l) (some ⟨w.heap.size, 0, none⟩) n none 0 none 0 0) 74
  have e6 : (w.alloc (.cells (List.replicate n (Value.int .u8 0)).toArray 5)).heap.size = w.heap.size + 1 := by simp
  rw [e6] at hd
  have hcells : devCells (Dev.fresh l) (some ⟨w.heap.size, 0, none⟩) n none 0 none 0 0 = [.slice (some ⟨w.heap.size, 0, none⟩) n n, .slice none 0 0, .bool false, .int .i64 0, .slice none 0 0, .int .i64 0, .int .i64 0, .int .i64 0] := by
    simp [devCells, Dev.fresh, hlen]
  have HC := hid hcells
  rw [hcells, List.toArray_replicate] at hd
  have HD := hid hd
  have HS := hid hs
  have HL := hid hlen
  have HOK := hid hok
  clear h hs hlen hok hd hcells e6 hk
  go_enter Try.func30, Try.ntmps30
  go_wp2_with ((with_reducible show wpList _ _ _ (Oper.mk (some 29) _ _ _ _ _ :: _) _ _); refine wpList_copy (by rfl) (.tmp 27) (.tmp 28) 34 34 (by rfl) Try.underlying34 u8size (by rfl) (by rfl) HD.out.p1 (by rfl) 0 n (by show _ = min _ _; omega) (fun _ => rfl) (by simp) (HS.out.ext (by repeat (first | exact Fr.refl _ _ _ | assumption | apply Fr.drew | (refine Fr.drewN ?_ _) | (refine Fr.alloc ?_ (by first | omega | (simp; done) | (simp; omega)) _) | (refine Fr.setCell ?_ (by first | (left; simp; done) | (right; simp; done) | (right; simp; omega)) _)))) (byts_oneCell _) ?_; intro w2 hm2)
  go_ret2
  refine ⟨w.heap.size + 1, rfl, ?_⟩
  have e : splice (List.replicate n (Value.int .u8 0)) 0 ((byts l).take n) = byts l := by
    have hb : (byts l).length = n := by rw [byts_length, HL.out]
    simp [splice, ← hb]
  rw [e] at hm2
  refine Mem.devNew (ia := some ⟨w.heap.size, 0, none⟩) (ic := n) HOK.out ?_
  refine (Mem.of_row rfl (rest := []) (by rw [byts_length]; omega) (by rw [HL.out]; exact Nat.le_refl _) (by omega) (by rw [byts_length, HL.out]; simp) ?_).p1
  rw [List.append_nil, HC.out]
  exact hm2

set_option maxHeartbeats 1000000 in
theorem Arm_any (wb w : World) (R : HP) (g : Nat) (D : Dev) (h : Mem wb w (devAt T8 g D * R)) (step : Int) (s1 : -9223372036854775808 ≤ step) (s2 : step ≤ 9223372036854775807)
    (l : Loss) (la : Option Addr) (lc : Nat) (hs : ∀ w', Mem wb w' R → Sl w' la l.keep.length lc (u64s l.keep)) (hl : l.ok) (hkl : l.keep.length ≤ 1000000000) :
    Calls Try.prog 22 #[.pointer (some ⟨g, 0, none⟩), .int .i64 step, .agg #[.slice la l.keep.length lc, .int .i64 l.torn, .int .i64 l.off]] w fun e w' => e = .returned (.int .i64 (D.arm step l).2) ∧ Mem wb w' (devAt T8 g (D.arm step l).1 * R) := by
  have HH := hid h
  obtain ⟨hok, ka, kc, h1⟩ := Mem.devAt.1 h
  obtain ⟨ia, ic, pa, pc, hm⟩ := Mem.dev0.1 h1
  have hmA : ∀ o : Obj, Mem wb (w.alloc o) _ := fun o => hm.alloc' o
  have c2 := (dev_cells hm).2.2.1
  have c2' : ∀ o : Obj, (w.alloc o).cell? _ = _ := fun o => (dev_cells (hmA o)).2.2.1
  have c3' : ∀ o : Obj, (w.alloc o).cell? _ = _ := fun o => (dev_cells (hmA o)).2.2.2.1
  have f3' : ∀ o : Obj, (w.alloc o).frozen? _ = _ := fun o => (dev_free (hmA o)).2.2.2.1
  have HM := hid hm
  have HOK := hid hok
  have HS := hid hs
  have HK := hid hl
  have HC : Hid (D.arm step l = if D.down then (D, 80) else if step < 0 then (D, 4) else ({ D with armed := step, loss := l }, 0)) := rfl
  clear h h1 hok hs hl hm hmA
  generalize D.arm step l = q at *
  cases hd : D.down
  all_goals
    rw [hd] at c2 c2' HC
    have HD := hid hd
    clear hd
  · simp only [Bool.false_eq_true, if_false] at HC
    by_cases hst : step < 0
    · simp only [hst, if_true] at HC
      obtain rfl := HC.out
      go_enter Try.func22, Try.ntmps22
      go_wp2_with fail
      go_ret
      exact ⟨rfl, HH.out.alloc' _⟩
    · simp only [hst, if_false] at HC
      obtain rfl := HC.out
      go_enter Try.func22, Try.ntmps22
      go_wp2_with fail
      have hq := hid ((HM.out.alloc [.slice la l.keep.length lc, .int .i64 l.torn, .int .i64 l.off] 38).p1.setCell 3 (.int .i64 step))
      generalize (w.alloc (Obj.cells #[Value.slice la l.keep.length lc, Value.int IntKind.i64 l.torn, Value.int IntKind.i64 l.off] 38)).setCell { block := g, off := 3 } (Value.int IntKind.i64 step) = w1 at hq ⊢
      have b0 := hq.out.p1.cell 0
      have b1 := hq.out.p1.cell 1
      have b2 := hq.out.p1.cell 2
      simp only [List.getElem?_cons_zero, List.getElem?_cons_succ] at b0 b1 b2
      clear c2 c2' c3' f3'
      go_region_law (first | (go_simp; go_at_call 42; go_loud (refine (Clone_any wb _ _ hq.out.drew la _ lc l.keep (HS.out _ hq.out.drew.right.right.right.right.right) hkl).mono ?_; rintro e w3 ⟨a', c', rfl, hm3⟩; have d0 := hm3.p2.cell 0; have d1 := hm3.p2.cell 1; have d2 := hm3.p2.cell 2; simp only [List.getElem?_cons_zero, List.getElem?_cons_succ] at d0 d1 d2; have x4 := hm3.p1.cell 4; have x5 := hm3.p1.cell 5; have x6 := hm3.p1.cell 6; simp [devCells] at x4 x5 x6; have y4 := hm3.p1.frozen 4; have y5 := hm3.p1.frozen 5; have y6 := hm3.p1.frozen 6; dsimp only)))
      all_goals
        go_wp2
        go_ret
        refine ⟨rfl, Mem.devAt.2 ⟨⟨HOK.out.img, HOK.out.pend, ⟨by show (0 : Int) ≤ step; omega, s2⟩, HK.out.torn, HK.out.off, HK.out.keep, HOK.out.calls⟩, a', c', Mem.dev0.2 ⟨ia, ic, pa, pc, ?_⟩⟩⟩
        have hx := ((hm3.p1.setCell 4 (.slice a' l.keep.length c')).setCell 5 (.int .i64 l.torn)).setCell 6 (.int .i64 l.off)
        have hx2 := hx.p2.right.p4.right.p1.q3
        simp only [devCells, HD.out] at hx2 ⊢
        exact hx2
  · simp only [if_true] at HC
    obtain rfl := HC.out
    go_enter Try.func22, Try.ntmps22
    go_wp2
    go_ret
    exact ⟨rfl, HH.out.alloc' _⟩
end Go.Proofs.Ytpdppacafkdgdaa

/- The walks of Write, Flush (package sectors). -/
set_option linter.unusedVariables false
set_option linter.unusedSimpArgs false
namespace Go.Le
open Go Go.RowKit
theorem pzCells_snoc (zs : List Pz) (z : Pz) : pzCells (zs ++ [z]) = pzCells zs ++ [.int .i64 (z.1.1 : Int), .slice z.2.1 z.1.2.length z.2.2] := by simp [pzCells]
/-- one pending write more -/
theorem Mem.push {wb w : World} {R : HP} {u pt : TypeId} {a' : Option Addr} {c' o j : Nat} {zs : List Pz} {L : List (Nat × List UInt8)} {b : List UInt8} (h : Mem wb w (row pt 2 a' (L.length + 1) c' (pzCells zs ++ [.int .i64 (j : Int), .slice (some ⟨o, 0, none⟩) 512 512]) * (all (zs.map (pzRow u)) * (pts o u (byts b) * R))))
    (hz : zs.map (·.1) = L) (hb : b.length = 512) : Mem wb w (Le.pends u pt a' c' (L ++ [(j, b)]) * R) := by
  refine Mem.pends.2 ⟨zs ++ [((j, b), (some ⟨o, 0, none⟩, 512))], by simp [hz], ?_⟩
  have h1 : Mem wb w (row u 1 (some ⟨o, 0, none⟩) 512 512 (byts b) * (row pt 2 a' (L.length + 1) c' (pzCells zs ++ [.int .i64 (j : Int), .slice (some ⟨o, 0, none⟩) 512 512]) * (all (zs.map (pzRow u)) * R))) :=
    Mem.of_row (rest := []) rfl (by rw [byts_length, hb]) (Nat.le_refl _) (by omega) (by rw [byts_length, hb]; simp) (by rw [List.append_nil]; exact h.p2)
  rw [List.map_append, List.map_cons, List.map_nil, all_snoc, pzCells_snoc]
  simp only [hb, List.length_append, List.length_cons, List.length_nil]
  unfold pzRow
  simp only [hb]
  refine h1.p1.eq ?_
  unfold pzRow
  ac_rfl
theorem asked_zero {D : Dev} {i : Int} (h : D.asked i = 0) : D.down = false ∧ 0 ≤ i ∧ i < (D.n : Int) := by
  unfold Dev.asked at h
  cases hd : D.down
  · rw [hd] at h
    simp only [Bool.false_eq_true, if_false] at h
    by_cases hx : i < 0 ∨ (D.n : Int) ≤ i
    · rw [if_pos hx] at h; omega
    · exact ⟨rfl, by omega, by omega⟩
  · rw [hd] at h; simp at h
theorem Dev.ok.sector {D : Dev} (h : D.ok) {i : Nat} (hi : i < D.n) : i * 512 + 512 ≤ D.img.length := by unfold Dev.n at hi; omega
theorem Dev.push_ok {D : Dev} (h : D.ok) {i : Nat} (hi : i < D.n) {b : List UInt8} (hb : b.length = 512) : ({ D with pend := D.pend ++ [(i, b)] } : Dev).ok :=
  ⟨h.img, fun p hp => by
    rcases List.mem_append.1 hp with hp | hp
    · exact h.pend p hp
    · simp only [List.mem_singleton] at hp
      subst hp
      exact ⟨h.sector hi, hb⟩, h.armed, h.torn, h.off, h.keep, h.calls⟩
end Go.Le
namespace Go.Proofs.Ytpdppacafkdgdaa
open Go Go.RowKit Go.Le

set_option maxRecDepth 20000 in
set_option maxHeartbeats 1000000 in
theorem Write_any (wb w : World) (R : HP) (g : Nat) (D : Dev) (h : Mem wb w (devAt T8 g D * R)) (hpl : D.pend.length ≤ 1000000000) (i : Int) (i1 : -9223372036854775808 ≤ i) (i2 : i ≤ 9223372036854775807)
    (a : Option Addr) (n c : Nat) (b : List UInt8) (hs : Sl w a n c (byts b)) :
    Calls Try.prog 12 #[.pointer (some ⟨g, 0, none⟩), .int .i64 i, .slice a n c] w fun e w' => e = .returned (.int .i64 (D.write i b).2) ∧ Mem wb w' (devAt T8 g (D.write i b).1 * R) := by
  have HH := hid h
  obtain ⟨hok, ka, kc, h1⟩ := Mem.devAt.1 h
  have HA := hid (asked_any wb w _ g D ka _ kc h1 hok i i1 i2)
  have H1 := hid h1
  have HOK := hid hok
  have HS := hid hs
  have hle := hs.le
  have hcp := hs.cap
  have hln := hs.len
  rw [byts_length] at hln
  have HLN := hid hln
  have HC : Hid (D.write i b = if D.asked i ≠ 0 then (D, D.asked i) else if b.length ≠ 512 then (D, 82) else
    if ({ D with pend := D.pend ++ [(i.toNat, b)] } : Dev).fires then (({ D with pend := D.pend ++ [(i.toNat, b)] } : Dev).count.fall D.loss, 80) else (({ D with pend := D.pend ++ [(i.toNat, b)] } : Dev).count, 0)) := rfl
  clear h h1 hok hs hln
  generalize D.write i b = q at *
  by_cases ha : D.asked i = 0
  · obtain ⟨ad, ai0, ain⟩ := asked_zero ha
    obtain ⟨j, rfl⟩ := Int.eq_ofNat_of_zero_le ai0
    replace ain : j < D.n := by omega
    have HAD := hid ad
    rw [ha] at HA
    simp only [ha, ne_eq, not_true_eq_false, if_false] at HC
    clear ha ad ai0
    by_cases hn : n = 512
    · subst hn
      have hmk := run_make_bytes (P := Try.prog) 34 5 Try.underlying34 u8info .i64 .i64 512 (by omega) (by omega)
      have e5 : Int.toNat 512 = 512 := rfl
      rw [e5] at hmk
      obtain ⟨Z, hZ⟩ : ∃ Z, Z = List.replicate 512 (Value.int .u8 0) := ⟨_, rfl⟩
      rw [← hZ] at hmk
      have hZl : Z.length = 512 := by rw [hZ]; simp
      simp only [HLN.out, ne_eq, not_true_eq_false, if_false] at HC
      have hz := hid (H1.out.alloc Z 5)
      have es : Hid (splice Z 0 ((byts b).take 512) = byts b) := by
        have hb : (byts b).length = 512 := by rw [byts_length, HLN.out]
        show _ = _
        rw [hZ]
        simp [splice, ← hb]
      have HZl := hid hZl
      clear e5 hZ hZl
      obtain ⟨pi, hi, hzz, hsz, hby⟩ := info_parts peInfo
      have JI := hid hi
      have JZ := hid hzz
      have JS := hid hsz
      have JB := hid hby
      clear hi hzz hsz hby
      go_enter Try.func12, Try.ntmps12
      go_wp2_with (first | (go_at_call 34; refine HA.out.mono ?_; rintro e w' ⟨rfl, rfl⟩; dsimp only) | ((with_reducible show wpList _ _ _ (Oper.mk (some 21) _ _ _ _ _ :: _) _ _); refine wpList_copy (by rfl) (.tmp 19) (.tmp 20) 34 34 (by rfl) Try.underlying34 u8size (by rfl) (by rfl) hz.out (by rfl) 0 512 (by rfl) (fun _ => rfl) (by rw [HZl.out]; exact Nat.le_refl _) (HS.out.ext (by repeat (first | exact Fr.refl _ _ _ | assumption | apply Fr.drew | (refine Fr.drewN ?_ _) | (refine Fr.alloc ?_ (by first | omega | (simp; done) | (simp; omega)) _) | (refine Fr.setCell ?_ (by first | (left; simp; done) | (right; simp; done) | (right; simp; omega)) _)))) (byts_oneCell _) ?_))
      intro w2 hm2
      rw [es.out] at hm2
      obtain ⟨ia, ic, pa, pc, hd⟩ := Mem.dev0.1 hm2.p1
      obtain ⟨zs, hz2, hp⟩ := Mem.pends.1 hd.p2
      have HZ := hid hz2
      have c1 := (dev_cells hd).2.1
      have hpc := hp.row_len
      have hq := hid (hp.alloc [.int .i64 (j : Int), .slice (some ⟨w.heap.size, 0, none⟩) 512 512] T8.pe)
      clear hm2 hd hp hz2
      go_wp2_with ((with_reducible show wpList _ _ _ (Oper.mk (some 31) _ _ _ _ _ :: _) _ _); refine wpList_append (by rfl) (.tmp 26) (.tmp 30) 30 (by rfl) Try.underlying30 JI.out JZ.out JS.out JB.out (by rfl) (by omega) (by rfl) (by rfl) hq.out.p1 rfl (by rfl) (news_built hq.out.blk.1) (by intro h; cases h) (by simp; exact ⟨rfl, rfl⟩) (by omega) (by omega) ?_)
      intro a' c' w3 hm3 _ _
      have hm4 := hm3.duo_row.p3
      have x1 := hm4.cell 1
      simp [devCells] at x1
      have y1 := hm4.frozen 1
      have hm5 := hm4.setCell 1 (.slice a' (D.pend.length + 1) c')
      have hm6 := Mem.push (R := pts g T8.dv ((devCells D ia ic pa pc ka D.loss.keep.length kc).set 1 (.slice a' (D.pend.length + 1) c')) * (row T8.u8 1 ia D.img.length ic (byts D.img) * (keepAt T8 (ka, kc) D.loss * R))) (u := T8.u8) (pt := T8.pe) (o := w.heap.size) (j := j) (a' := a') (c' := c') (hm5.p2.right.eq (by simp only [T8]; ac_rfl)) HZ.out HLN.out
      obtain ⟨E, hE⟩ : ∃ E : Dev, E = { D with pend := D.pend ++ [(j, b)] } := ⟨_, rfl⟩
      have hm7 : Mem wb (w3.setCell ⟨g, 1, none⟩ (.slice a' (D.pend.length + 1) c')) (dev0 T8 g E ka D.loss.keep.length kc * (keepAt T8 (ka, kc) D.loss * R)) := by
        refine Mem.dev0.2 ⟨ia, ic, a', c', ?_⟩
        rw [hE]
        simpa [devCells] using hm6.q2
      have hEl : E.loss = D.loss := by rw [hE]
      have hEp : E.pend.length = D.pend.length + 1 := by rw [hE]; simp
      have hEok : E.ok := by rw [hE]; exact Dev.push_ok HOK.out ain HLN.out
      rw [Int.toNat_natCast, ← hE] at HC
      have HM7 := hid hm7
      have HEL := hid hEl
      have HEP := hid hEp
      have HEO := hid hEok
      clear hm3 hm4 hm5 hm6 hm7 hE hEl hEp hEok c1
      go_wp2_with fail
      refine (crashes_any wb _ _ g E ka _ kc HM7.out HEO.out).mono ?_
      rintro e w4 ⟨rfl, hm8⟩
      dsimp only
      obtain ⟨ia2, ic2, pa2, pc2, hd2⟩ := Mem.dev0.1 hm8
      obtain ⟨-, -, -, -, x4, x5, x6, -⟩ := dev_cells hd2
      have hcl : E.count.loss = D.loss := by rw [← HEL.out]; rfl
      rw [hcl] at x5 x6
      have HCL := hid hcl
      have HM8 := hid hm8
      clear hd2 hm8 hcl x1 y1
      generalize hfi : E.fires = fi at *
      cases fi
      · simp only [Bool.false_eq_true, if_false] at HC
        obtain rfl := HC.out
        clear hfi
        go_wp2_with fail
        go_ret
        refine ⟨rfl, Mem.devAt.2 ⟨Dev.count_ok HEO.out, ka, kc, ?_⟩⟩
        have := HM8.out
        simpa [HCL.out] using this
      · simp only [if_true] at HC
        obtain rfl := HC.out
        clear hfi
        go_wp2_with fail
        refine (fall_any wb w4 (keepAt T8 (ka, kc) D.loss * R) g E.count ka _ kc HM8.out (Dev.count_ok HEO.out) (by show E.pend.length ≤ _; rw [HEP.out]; omega) D.loss ka kc (fun w' hw => hw.row_sl) HOK.out.keep HOK.out.torn HOK.out.off).mono ?_
        rintro e w5 ⟨rfl, hm9⟩
        dsimp only
        go_wp2_with fail
        go_ret
        refine ⟨rfl, Mem.devAt.2 ⟨Dev.fall_ok (Dev.count_ok HEO.out) _, ka, kc, ?_⟩⟩
        have e : (E.count.fall D.loss).loss = D.loss := HCL.out
        rw [e]
        exact hm9
    · have hb : ¬ b.length = 512 := by rw [HLN.out]; exact hn
      simp only [hb, ne_eq, not_false_eq_true, if_true] at HC
      obtain rfl := HC.out
      have bn : ((n : Int) != 512) = true := by simp; omega
      clear hb
      go_enter Try.func12, Try.ntmps12
      go_wp2_with (go_at_call 34; refine HA.out.mono ?_; rintro e w' ⟨rfl, rfl⟩; dsimp only)
      go_ret
      exact ⟨rfl, HH.out⟩
  · simp only [ha, ne_eq, not_false_eq_true, if_true] at HC
    obtain rfl := HC.out
    have bn : (D.asked i != 0) = true := by simpa using ha
    clear ha
    go_enter Try.func12, Try.ntmps12
    go_wp2_with (go_at_call 34; refine HA.out.mono ?_; rintro e w' ⟨rfl, rfl⟩; dsimp only)
    go_ret
    exact ⟨rfl, HH.out⟩
end Go.Proofs.Ytpdppacafkdgdaa

/- The walk of Flush (package sectors). -/
set_option linter.unusedVariables false
set_option linter.unusedSimpArgs false
namespace Go.Le
open Go Go.RowKit
theorem flushed_take (img : List UInt8) (pend : List (Nat × List UInt8)) (k : Nat) (p : Nat × List UInt8) (h : pend[k]? = some p) : flushed img (pend.take (k + 1)) = put (flushed img (pend.take k)) p 512 := by
  obtain ⟨h1, h2⟩ := List.getElem?_eq_some_iff.1 h
  rw [List.take_succ_eq_append_getElem h1, h2]
  simp [flushed]
theorem flushed_length : ∀ (pend : List (Nat × List UInt8)) (img : List UInt8), (∀ p ∈ pend, p.1 * 512 + 512 ≤ img.length ∧ p.2.length = 512) → (flushed img pend).length = img.length
  | [], _, _ => rfl
  | p :: r, img, h => by
    have h1 := h p (by simp)
    have h2 := put_length img p 512 h1.1 h1.2
    show (flushed (put img p 512) r).length = _
    rw [flushed_length r _ (fun q hq => by rw [h2]; exact h q (by simp [hq])), h2]
theorem flushed_ok {D : Dev} (h : D.ok) : ({ D.count with img := flushed D.img D.pend, pend := [] } : Dev).ok := by
  have e := flushed_length D.pend D.img h.pend
  have hc := Dev.count_ok h
  obtain ⟨n, h1, h2⟩ := h.img
  exact ⟨⟨n, by rw [e]; exact h1, h2⟩, by simp, hc.armed, h.torn, h.off, h.keep, hc.calls⟩
end Go.Le
namespace Go.Proofs.Ytpdppacafkdgdaa
open Go Go.RowKit Go.Le

set_option maxRecDepth 20000 in
set_option maxHeartbeats 1000000 in
theorem Flush_any (wb w : World) (R : HP) (g : Nat) (D : Dev) (h : Mem wb w (devAt T8 g D * R)) (hpl : D.pend.length ≤ 1000000000) :
    Calls Try.prog 29 #[.pointer (some ⟨g, 0, none⟩)] w fun e w' => e = .returned (.int .i64 D.flush.2) ∧ Mem wb w' (devAt T8 g D.flush.1 * R) := by
  have HH := hid h
  obtain ⟨hok, ka, kc, h1⟩ := Mem.devAt.1 h
  have HCR := hid (crashes_any wb w _ g D ka _ kc h1 hok)
  have HC : Hid (D.flush = if D.down then (D, 80) else if D.fires then (D.count.fall D.loss, 80) else ({ D.count with img := flushed D.img D.pend, pend := [] }, 0)) := rfl
  obtain ⟨ia, ic, pa, pc, hm⟩ := Mem.dev0.1 h1
  obtain ⟨-, -, c2, -⟩ := dev_cells hm
  have HOK := hid hok
  clear h h1 hok hm
  generalize D.flush = q at *
  cases hd : D.down
  all_goals
    rw [hd] at c2 HC
    have HD := hid hd
    clear hd
  · simp only [Bool.false_eq_true, if_false] at HC
    go_enter Try.func29, Try.ntmps29
    go_wp2_with fail
    refine HCR.out.mono ?_
    rintro e w4 ⟨rfl, hm8⟩
    dsimp only
    have HM8 := hid hm8
    clear c2
    obtain ⟨ia2, ic2, pa2, pc2, hd2⟩ := Mem.dev0.1 hm8
    clear hm8
    have hcl : D.count.loss = D.loss := rfl
    generalize hfi : D.fires = fi at *
    cases fi
    · simp only [Bool.false_eq_true, if_false] at HC
      obtain rfl := HC.out
      clear hfi
      obtain ⟨zs, hz, hm⟩ := Mem.pends.1 hd2.p2
      obtain ⟨ni, hni, hn1, hn2⟩ := HOK.out.img
      have hil : D.img.length ≤ 2097152 := by omega
      have hzl : zs.length = D.pend.length := by have := congrArg List.length hz; rw [List.length_map] at this; exact this
      obtain ⟨gi, -, rfl, -, i1, i2, -⟩ := hm.p3.row_at (by show 0 < D.img.length; omega)
      replace i1 : D.img.length ≤ ic2 := i1
      have c1 := (dev_cells hm.p2).2.1
      have HM := hid hm
      have HZ := hid hz
      have HZL := hid hzl
      clear hd2 hm hz hzl hni
      have hpe : D.count.pend = D.pend := rfl
      have hie : D.count.img = D.img := rfl
      rw [hpe] at c1 HZ HM
      rw [hie] at HM
      clear hpe hie hcl
      generalize hnl : D.pend.length = n at *
      have HN := hid hnl
      clear hnl
      go_wp2_with fail
      go_loopw [22] (fun i wr => ∃ (k : Nat), k ≤ n ∧ i = .int .i64 k ∧
        Mem wb wr (row T8.pe 2 pa2 n pc2 (pzCells zs) * (all (zs.map (pzRow T8.u8)) * (pts g T8.dv (devCells D.count (some ⟨gi, 0, none⟩) ic2 pa2 pc2 ka D.loss.keep.length kc) * (row T8.u8 1 (some ⟨gi, 0, none⟩) (flushed D.img (D.pend.take k)).length ic2 (byts (flushed D.img (D.pend.take k))) * (keepAt T8 (ka, kc) D.loss * R)))))) (fun i _ => n - (intOf i).toNat)
      case atStart => exact ⟨0, by omega, rfl, by have := HM.out; simpa [flushed] using this⟩
      case round =>
        obtain ⟨k, hk, rfl, hm⟩ := hrel
        have hi : (flushed D.img (D.pend.take k)).length = D.img.length := flushed_length _ _ fun p hp => HOK.out.pend p (List.mem_of_mem_take hp)
        obtain ⟨img, himg⟩ : ∃ img, img = flushed D.img (D.pend.take k) := ⟨_, rfl⟩
        rw [← himg] at hm hi
        have HI := hid hi
        have HG := hid himg
        clear hi himg
        by_cases hlt : k < n
        · obtain ⟨gp, rest, rfl, r1, r2, r3, r4, hmp⟩ := hm.row_at (by omega)
          obtain ⟨z, hz⟩ : ∃ z, zs[k]? = some z := ⟨zs[k]'(by rw [HZL.out]; exact hlt), List.getElem?_eq_getElem _⟩
          have hpk := pz_cells zs k z hz
          have hp0 := hmp.cell (k * 2)
          have hp1 := hmp.cell (k * 2 + 1)
          rw [List.getElem?_append_left (by rw [r1]; omega)] at hp0 hp1
          rw [hpk.1] at hp0
          rw [hpk.2] at hp1
          have HZK := hid hz
          have hpz : D.pend[k]? = some z.1 := by rw [← HZ.out, List.getElem?_map, hz]; rfl
          have hzo := HOK.out.pend z.1 (List.mem_of_getElem? hpz)
          have HPZ := hid hpz
          obtain ⟨zs1, zs2⟩ := hzo
          have ZL := hid zs2
          rw [zs2] at hp1
          obtain ⟨⟨si, bs⟩, ba, bc⟩ := z
          simp only at hp0 hp1 zs1 zs2
          have HM1 := hid (hm.alloc [.int .i64 (si : Int), .slice ba 512 bc] 76)
          clear hpk hz hpz hmp hm r1 r4 zs2
          obtain ⟨rest2, -, -, j1, -, -, j4, hmi⟩ := Mem.row_some.1 HM1.out.p4
          obtain ⟨Az, hmz⟩ := Mem.pz HM1.out.p2 HZK.out
          have hsz := hmz.row_sl
          simp only at hsz
          rw [ZL.out] at hsz
          have hfit9 : Hid (si * 512 + 512 ≤ (byts img ++ rest2).length) := by
            show _ ≤ _
            have hi9 := HI.out
            simp only [List.length_append, byts_length]
            omega
          have HSZ := hid hsz
          have J1 := hid j4
          have HMI := hid hmi
          clear hsz hmz hmi j1 j4
          go_wp2_with fail
          have b0 := HM1.out.cell 0
          have b1 := HM1.out.cell 1
          simp only [List.getElem?_cons_zero, List.getElem?_cons_succ] at b0 b1
          generalize (wr.alloc (Obj.cells #[Value.int IntKind.i64 (si : Int), .slice ba 512 bc] 76)) = w2 at *
          go_region_law (first | ((with_reducible show (if Region.wanted (Oper.mk (some 32) _ _ _ _ _) _ = true then _ else _)); refine step_copy (by rfl) (.tmp 29) (.tmp 31) 34 34 (by rfl) Try.underlying34 u8size (by rfl) (by rfl) HMI.out.drew (by rfl) (si * 512) 512 (by rfl) (fun _ => rfl) hfit9.out HSZ.out.drew (byts_oneCell _) ?_; intro w4 hm4) | (go_simp; go_at_call 44; refine (sector_any wb _ _ g D.count gi (some ⟨gp, 0, none⟩) ka ic2 pc2 _ kc (by first | exact HM1.out.p3 | exact HM1.out.p3.drew) hil i1 i2 si (by exact zs1)).mono ?_; rintro e w3 ⟨rfl, rfl⟩))
          all_goals
            have hm5 := Mem.img_back (img' := put img (si, bs) 512) hm4 (by rw [HI.out]; exact zs1) (by rw [show bs.length = 512 from ZL.out]; exact Nat.le_refl _) (by rw [HI.out]; exact i1) i2 J1.out rfl
            have HM5 := hid hm5
            clear hm4 hm5
            go_wp2_with fail
            go_roundw
            case rel => exact ⟨k + 1, by omega, by go_num, by rw [flushed_take _ _ _ _ HPZ.out, ← HG.out]; exact HM5.out.p1.right.q3⟩
            case measure => simp [intOf] <;> omega
        · obtain rfl : k = n := by omega
          have hd := hm.p2
          obtain ⟨e0, e1, e2, e3, e4, e5, e6, e7⟩ := dev_cells hd
          obtain ⟨f0, f1, f2, f3, f4, f5, f6, f7⟩ := dev_free hd
          have HD := hid hd
          clear hd hm
          go_wp2_with fail
          go_ret
          have hq := HD.out.setCell 1 (.slice none 0 0)
          rw [List.take_of_length_le (by rw [HN.out]; exact Nat.le_refl _)] at HG
          rw [HG.out] at hq HI
          refine ⟨rfl, Mem.devAt.2 ⟨flushed_ok HOK.out, ka, kc, Mem.dev0.2 ⟨some ⟨gi, 0, none⟩, ic2, none, 0, ?_⟩⟩⟩
          have hq2 := (Mem.pends_nil (u := T8.u8) (pt := T8.pe) hq.p1.right.p1.right).q2
          refine hq2.eq ?_
          simp [devCells, HI.out, Dev.count]
    · simp only [if_true] at HC
      obtain rfl := HC.out
      clear hfi
      obtain ⟨-, -, -, -, x4, x5, x6, -⟩ := dev_cells hd2
      rw [hcl] at x5 x6
      clear hd2 hcl
      go_wp2_with fail
      refine (fall_any wb w4 (keepAt T8 (ka, kc) D.loss * R) g D.count ka _ kc HM8.out (Dev.count_ok HOK.out) (by show D.pend.length ≤ _; omega) D.loss ka kc (fun w' hw => hw.row_sl) HOK.out.keep HOK.out.torn HOK.out.off).mono ?_
      rintro e w5 ⟨rfl, hm9⟩
      dsimp only
      go_wp2_with fail
      go_ret
      exact ⟨rfl, Mem.devAt.2 ⟨Dev.fall_ok (Dev.count_ok HOK.out) _, ka, kc, hm9⟩⟩
  · simp only [if_true] at HC
    obtain rfl := HC.out
    go_enter Try.func29, Try.ntmps29
    go_wp2_with fail
    go_ret
    exact ⟨rfl, HH.out⟩
end Go.Proofs.Ytpdppacafkdgdaa

/- The walks of Read and Cache (package sectors). -/
set_option linter.unusedVariables false
set_option linter.unusedSimpArgs false
namespace Go.Le
open Go Go.RowKit
theorem lastOf_take (i : Nat) (b : List UInt8) (pend : List (Nat × List UInt8)) (k : Nat) (p : Nat × List UInt8) (h : pend[k]? = some p) : lastOf i b (pend.take (k + 1)) = if p.1 = i then p.2 else lastOf i b (pend.take k) := by
  obtain ⟨h1, h2⟩ := List.getElem?_eq_some_iff.1 h
  rw [List.take_succ_eq_append_getElem h1, h2]
  simp [lastOf]
theorem lastOf_length (i : Nat) : ∀ (pend : List (Nat × List UInt8)) (b : List UInt8), b.length = 512 → (∀ p ∈ pend, p.2.length = 512) → (lastOf i b pend).length = 512
  | [], b, hb, _ => hb
  | p :: r, b, hb, h => by
    show (lastOf i (if p.1 = i then p.2 else b) r).length = 512
    refine lastOf_length i r _ ?_ (fun q hq => h q (by simp [hq]))
    split
    · exact h p (by simp)
    · exact hb
theorem sec_length {img : List UInt8} {i : Nat} (h : i * 512 + 512 ≤ img.length) : (sec img i).length = 512 := by simp [sec]; omega
theorem Dev.last_length {D : Dev} (h : D.ok) {i : Nat} (hi : i < D.n) : (D.last i).length = 512 := lastOf_length i _ _ (sec_length (h.sector hi)) (fun p hp => (h.pend p hp).2)
theorem Mem.clip {wb w : World} {R : HP} {e : TypeId} {a : Option Addr} {s n c : Nat} {xs : List Value} (h : Mem wb w (row e s a n c xs * R)) : Mem wb w (row e s a n n xs * R) := by
  cases a with
  | none =>
    obtain ⟨rfl, rfl, rfl, h2⟩ := Mem.row_none.1 h
    exact Mem.row_none.2 ⟨rfl, rfl, rfl, h2⟩
  | some p =>
    obtain ⟨b, o, sp⟩ := p
    obtain ⟨rest, rfl, rfl, h1, h2, h3, h4, h5⟩ := Mem.row_some.1 h
    exact Mem.row_some.2 ⟨rest, rfl, rfl, h1, Nat.le_refl _, by omega, by omega, h5⟩
end Go.Le
namespace Go.Proofs.Ytpdppacafkdgdaa
open Go Go.RowKit Go.Le

theorem Read_no (wb w : World) (R : HP) (g : Nat) (D : Dev) (ka : Option Addr) (kn kc : Nat) (h : Mem wb w (dev0 T8 g D ka kn kc * R)) (hok : D.ok) (i : Int) (i1 : -9223372036854775808 ≤ i) (i2 : i ≤ 9223372036854775807) (ha : D.asked i ≠ 0) :
    Calls Try.prog 41 #[.pointer (some ⟨g, 0, none⟩), .int .i64 i] w fun e w' => e = .returned (.tuple #[.slice none 0 0, .int .i64 (D.asked i)]) ∧ w = w' := by
  have HA := hid (asked_any wb w _ g D ka _ kc h hok i i1 i2)
  have bn : (D.asked i != 0) = true := by simpa using ha
  clear ha h hok
  go_enter Try.func41, Try.ntmps41
  go_wp2_with (go_at_call 34; refine HA.out.mono ?_; rintro e w' ⟨rfl, rfl⟩; dsimp only)
  go_ret2
  exact ⟨rfl, rfl⟩

set_option maxRecDepth 20000 in
set_option maxHeartbeats 1000000 in
theorem Read_any (wb w : World) (R : HP) (g : Nat) (D : Dev) (ka : Option Addr) (kn kc : Nat) (h : Mem wb w (dev0 T8 g D ka kn kc * R)) (hok : D.ok) (hpl : D.pend.length ≤ 1000000000) (j : Nat) (hj : j < D.n) (hd0 : D.down = false) :
    Calls Try.prog 41 #[.pointer (some ⟨g, 0, none⟩), .int .i64 (j : Int)] w fun e w' => ∃ a c, e = .returned (.tuple #[.slice a 512 c, .int .i64 0]) ∧ Mem wb w' (row 5 1 a 512 c (byts (D.last j)) * (dev0 T8 g D ka kn kc * R)) := by
  have hN : D.n ≤ 4096 := by obtain ⟨n, a, b, c⟩ := hok.img; unfold Dev.n; omega
  have ha : D.asked j = 0 := by
    unfold Dev.asked
    rw [hd0, if_neg (by simp), if_neg (by omega)]
  have HA := hid (asked_any wb w _ g D ka _ kc h hok j (by omega) (by omega))
  rw [ha] at HA
  have hjs := hok.sector hj
  have H := hid h
  have HOK := hid hok
  obtain ⟨ia, ic, pa, pc, hm⟩ := Mem.dev0.1 h
  obtain ⟨ni, hni, hn1, hn2⟩ := hok.img
  have hil : D.img.length ≤ 2097152 := by omega
  obtain ⟨gi, -, rfl, -, i1, i2, -⟩ := hm.p1.row_at (by omega)
  have HSE := hid (sector_any wb w _ g D gi pa ka ic pc kn kc hm hil i1 i2 j hjs)
  have hsec : Hid (Sl w (some ⟨gi, j * 512, none⟩) 512 (ic - j * 512) (byts (sec D.img j))) := by
    have h1 := hm.p1.row_sl.cut2 (j * 512) (j * 512 + 512) (some ⟨gi, j * 512, none⟩) 512 (ic - j * 512) (by omega) hjs (by rw [if_neg (by omega)]; simp [Addr.add_lit]) (by omega) rfl
    rw [byts_take, byts_drop] at h1
    have e : (D.img.take (j * 512 + 512)).drop (j * 512) = sec D.img j := by rw [List.drop_take]; simp [sec]
    rw [e] at h1
    exact h1
  have c1 := (dev_cells hm).2.1
  obtain ⟨zs, hz, hp⟩ := Mem.pends.1 hm.p2
  have HP := hid hp
  have HZ := hid hz
  have hzl : zs.length = D.pend.length := by rw [← hz]; simp
  have HZL := hid hzl
  have HJ : Hid (D.last j = lastOf j (sec D.img j) D.pend) := rfl
  clear h hok hm hni hn1 hn2 hd0 ha hp hz hzl
  generalize hnl : D.pend.length = n at *
  have HN := hid hnl
  clear hnl
  obtain ⟨Z, hZ⟩ : ∃ Z, Z = List.replicate 512 (Value.int .u8 0) := ⟨_, rfl⟩
  have hmk := run_make_bytes (P := Try.prog) 34 5 Try.underlying34 u8info .i64 .i64 512 (by omega) (by omega)
  have e5 : Int.toNat 512 = 512 := rfl
  rw [e5, ← hZ] at hmk
  have HZl : Hid (Z.length = 512) := by show _ = _; rw [hZ]; simp
  have HZR := hid hZ
  clear e5 hZ
  go_enter Try.func41, Try.ntmps41
  go_wp2_with (first | (go_at_call 34; refine HA.out.mono ?_; rintro e w' ⟨rfl, rfl⟩; dsimp only) | (go_at_call 44; refine HSE.out.mono ?_; rintro e w' ⟨rfl, rfl⟩; dsimp only))
  go_loopw [7, 25] (fun s i wr => ∃ (k : Nat) (fa : Option Addr) (fc : Nat), k ≤ n ∧ i = .int .i64 k ∧ s = .slice fa 512 fc ∧ Sl wr fa 512 fc (byts (lastOf j (sec D.img j) (D.pend.take k))) ∧ Fr w.heap.size [] w wr) (fun _ i _ => n - (intOf i).toNat)
  case atStart => exact ⟨0, _, _, by omega, rfl, rfl, hsec.out, Fr.refl _ _ _⟩
  case round =>
    obtain ⟨k, fa, fc, hk, rfl, rfl, hs, hf⟩ := hrel
    by_cases hlt : k < n
    · have hm := HP.out.fr hf
      obtain ⟨gp, rest, rfl, r1, r2, r3, r4, hmp⟩ := hm.row_at (by omega)
      obtain ⟨z, hz⟩ : ∃ z, zs[k]? = some z := ⟨zs[k]'(by rw [HZL.out]; exact hlt), List.getElem?_eq_getElem _⟩
      have hpk := pz_cells zs k z hz
      have hp0 := hmp.cell (k * 2)
      have hp1 := hmp.cell (k * 2 + 1)
      rw [List.getElem?_append_left (by rw [r1]; omega)] at hp0 hp1
      rw [hpk.1] at hp0
      rw [hpk.2] at hp1
      have HZK := hid hz
      have hpz : D.pend[k]? = some z.1 := by rw [← HZ.out, List.getElem?_map, hz]; rfl
      have hzo := HOK.out.pend z.1 (List.mem_of_getElem? hpz)
      obtain ⟨zs1, zs2⟩ := hzo
      have HNX := hid (lastOf_take j (sec D.img j) D.pend k z.1 hpz)
      have ZL := hid zs2
      rw [zs2] at hp1
      obtain ⟨⟨si, bs⟩, ba, bc⟩ := z
      simp only at hp0 hp1 zs1 zs2 HNX
      obtain ⟨Az, hmz⟩ := Mem.pz hm.right HZK.out
      have hsz := hmz.row_sl
      simp only at hsz
      rw [ZL.out] at hsz
      have HSZ := hid hsz
      have HS := hid hs
      have HF := hid hf
      clear hpk hz hpz hmp hm r1 r4 zs2 hsz hmz hs hf
      by_cases hsi : si = j
      · have hb : ((si : Int) == (j : Int)) = true := by simp; omega
        rw [if_pos hsi] at HNX
        clear hsi
        go_wp2_with fail
        go_roundw
        case rel => exact ⟨k + 1, ba, bc, by omega, by go_num, rfl, by rw [HNX.out]; exact HSZ.out.ext (by repeat (first | exact Fr.refl _ _ _ | assumption | apply Fr.drew | (refine Fr.drewN ?_ _) | (refine Fr.alloc ?_ (by first | omega | (simp; done) | (simp; omega)) _) | (refine Fr.setCell ?_ (by first | (left; simp; done) | (right; simp; done) | (right; simp; omega)) _))), HF.out.alloc HF.out.size _⟩
        case measure => simp [intOf] <;> omega
      · have hb : ((si : Int) == (j : Int)) = false := by simp; omega
        rw [if_neg hsi] at HNX
        clear hsi
        go_wp2_with fail
        go_roundw
        case rel => exact ⟨k + 1, fa, fc, by omega, by go_num, rfl, by rw [HNX.out]; exact HS.out.ext (by repeat (first | exact Fr.refl _ _ _ | assumption | apply Fr.drew | (refine Fr.drewN ?_ _) | (refine Fr.alloc ?_ (by first | omega | (simp; done) | (simp; omega)) _) | (refine Fr.setCell ?_ (by first | (left; simp; done) | (right; simp; done) | (right; simp; omega)) _))), HF.out.alloc HF.out.size _⟩
        case measure => simp [intOf] <;> omega
    · obtain rfl : k = n := by omega
      rw [List.take_of_length_le (by rw [HN.out]; exact Nat.le_refl _)] at hs
      have hme := hid ((H.out.fr hf).alloc Z 5)
      have HS := hid hs
      clear hs hf
      go_wp2_with ((with_reducible show wpList _ _ _ (Oper.mk (some 39) _ _ _ _ _ :: _) _ _); refine wpList_copy (by rfl) (.tmp 37) (.tmp 38) 34 34 (by rfl) Try.underlying34 u8size (by rfl) (by rfl) hme.out (by rfl) 0 512 (by rfl) (fun _ => rfl) (by rw [HZl.out]; exact Nat.le_refl _) (HS.out.ext (by repeat (first | exact Fr.refl _ _ _ | assumption | apply Fr.drew | (refine Fr.drewN ?_ _) | (refine Fr.alloc ?_ (by first | omega | (simp; done) | (simp; omega)) _) | (refine Fr.setCell ?_ (by first | (left; simp; done) | (right; simp; done) | (right; simp; omega)) _)))) (byts_oneCell _) ?_; intro w2 hm2)
      go_ret2
      refine ⟨_, 512, rfl, ?_⟩
      have hl := HS.out.len
      rw [HJ.out]
      generalize lastOf j (sec D.img j) D.pend = q at *
      have e : splice Z 0 ((byts q).take 512) = byts q := by rw [HZR.out]; simp [splice, ← hl]
      rw [e] at hm2
      exact Mem.of_row (rest := []) rfl (by omega) (Nat.le_refl _) (by omega) (by simp; omega) (by simpa using hm2)
end Go.Proofs.Ytpdppacafkdgdaa

/- The walk of Cache (package sectors). -/
set_option linter.unusedVariables false
set_option linter.unusedSimpArgs false
namespace Go.Proofs.Ytpdppacafkdgdaa
open Go Go.RowKit Go.Le

theorem Clip_any (w : World) (a : Option Addr) (n c : Nat) (hn : n ≤ c) (hc : c ≤ 9223372036854775807) :
    Calls Try.prog 43 #[.slice a n c] w fun e w' => e = .returned (.slice a n n) ∧ w = w' := by
  go_enter Try.func43, Try.ntmps43
  have h1 : (n : Int) ≤ (c : Int) := by omega
  go_wp2
  go_ret
  exact ⟨by simp, rfl⟩

set_option maxRecDepth 20000 in
set_option maxHeartbeats 1000000 in
theorem Cache_any (wb w : World) (R : HP) (g : Nat) (D : Dev) (ka : Option Addr) (kn kc : Nat) (h : Mem wb w (dev0 T8 g D ka kn kc * R)) (hok : D.ok) (hpl : D.pend.length ≤ 1000000000) :
    Calls Try.prog 27 #[.pointer (some ⟨g, 0, none⟩)] w fun e w' => ∃ a, e = .returned (.slice a D.pend.length D.pend.length) ∧ Mem wb w' (pends T8.u8 T8.pe a D.pend.length D.pend * (dev0 T8 g D ka kn kc * R)) := by
  have HOK := hid hok
  obtain ⟨ia, ic, pa, pc, hm⟩ := Mem.dev0.1 h
  have c1 := (dev_cells hm).2.1
  obtain ⟨zs, hz, hp⟩ := Mem.pends.1 hm.p2
  have HP := hid hp
  have HZ := hid hz
  have hzl : zs.length = D.pend.length := by rw [← hz]; simp
  have HZL := hid hzl
  clear h hok hm hp hz hzl
  generalize hnl : D.pend.length = n at *
  have HN := hid hnl
  clear hnl
  obtain ⟨Z, hZ⟩ : ∃ Z, Z = List.replicate 512 (Value.int .u8 0) := ⟨_, rfl⟩
  have hmk := run_make_bytes (P := Try.prog) 34 5 Try.underlying34 u8info .i64 .i64 512 (by omega) (by omega)
  have e5 : Int.toNat 512 = 512 := rfl
  rw [e5, ← hZ] at hmk
  have HZl : Hid (Z.length = 512) := by show _ = _; rw [hZ]; simp
  have HZR := hid hZ
  obtain ⟨pi, hi, hzz, hsz, hby⟩ := info_parts peInfo
  have JI := hid hi
  have JZ := hid hzz
  have JS := hid hsz
  have JB := hid hby
  clear hi hzz hsz hby e5 hZ
  go_enter Try.func27, Try.ntmps27
  go_wp2_with fail
  go_loopw [3, 12] (fun s i wr => ∃ (k : Nat) (oa : Option Addr) (oc : Nat), k ≤ n ∧ i = .int .i64 k ∧ s = .slice oa k oc ∧
    Mem wb wr (pends T8.u8 T8.pe oa oc (D.pend.take k) * (row T8.pe 2 pa n pc (pzCells zs) * (all (zs.map (pzRow T8.u8)) * (pts g T8.dv (devCells D ia ic pa pc ka kn kc) * (row T8.u8 1 ia D.img.length ic (byts D.img) * R)))))) (fun _ i _ => n - (intOf i).toNat)
  case atStart => exact ⟨0, none, 0, by omega, rfl, rfl, Mem.pends_nil HP.out⟩
  case round =>
    obtain ⟨k, oa, oc, hk, rfl, rfl, hm⟩ := hrel
    by_cases hlt : k < n
    · obtain ⟨gp, rest, rfl, r1, r2, r3, r4, hmp⟩ := hm.p1.row_at (by omega)
      obtain ⟨z, hz⟩ : ∃ z, zs[k]? = some z := ⟨zs[k]'(by rw [HZL.out]; exact hlt), List.getElem?_eq_getElem _⟩
      have hpk := pz_cells zs k z hz
      have hp0 := hmp.cell (k * 2)
      have hp1 := hmp.cell (k * 2 + 1)
      rw [List.getElem?_append_left (by rw [r1]; omega)] at hp0 hp1
      rw [hpk.1] at hp0
      rw [hpk.2] at hp1
      have HZK := hid hz
      have hpz : D.pend[k]? = some z.1 := by rw [← HZ.out, List.getElem?_map, hz]; rfl
      have hzo := HOK.out.pend z.1 (List.mem_of_getElem? hpz)
      obtain ⟨zs1, zs2⟩ := hzo
      have HPZ := hid hpz
      have ZL := hid zs2
      rw [zs2] at hp1
      obtain ⟨⟨si, bs⟩, ba, bc⟩ := z
      simp only at hp0 hp1 zs1 zs2
      obtain ⟨Az, hmz⟩ := Mem.pz hm.p2 HZK.out
      have hsz := hmz.row_sl
      simp only at hsz
      rw [ZL.out] at hsz
      have HSZ := hid hsz
      have HM := hid hm
      obtain ⟨W1, hW1⟩ : ∃ W1, W1 = wr.alloc (Obj.cells #[Value.int IntKind.i64 (si : Int), .slice ba 512 bc] 76) := ⟨_, rfl⟩
      have hsW : W1.heap.size = wr.heap.size + 1 := by rw [hW1]; simp
      have ha1 := hm.alloc [Value.int IntKind.i64 (si : Int), .slice ba 512 bc] 76
      rw [← hW1] at ha1
      have ha2 := hid (ha1.alloc Z 5)
      have fW : Fr wr.heap.size [] wr W1 := by rw [hW1]; exact (by repeat (first | exact Fr.refl _ _ _ | assumption | apply Fr.drew | (refine Fr.drewN ?_ _) | (refine Fr.alloc ?_ (by first | omega | (simp; done) | (simp; omega)) _) | (refine Fr.setCell ?_ (by first | (left; simp; done) | (right; simp; done) | (right; simp; omega)) _)))
      rw [hsW] at ha2
      have b0 := ha2.out.p1.cell 0
      have b1 := ha2.out.p1.cell 1
      simp only [List.getElem?_cons_zero, List.getElem?_cons_succ] at b0 b1
      rw [hW1] at ha2 b0 b1 fW
      clear hpk hz hpz hmp hm r1 r4 zs2 hsz hmz ha1 hW1 hsW
      go_wp2_with ((with_reducible show wpList _ _ _ (Oper.mk (some 20) _ _ _ _ _ :: _) _ _); refine wpList_copy (by rfl) (.tmp 17) (.tmp 19) 34 34 (by rfl) Try.underlying34 u8size (by rfl) (by rfl) ha2.out (by rfl) 0 512 (by rfl) (fun _ => rfl) (by rw [HZl.out]; exact Nat.le_refl _) (HSZ.out.ext (by repeat (first | exact Fr.refl _ _ _ | assumption | apply Fr.drew | (refine Fr.drewN ?_ _) | (refine Fr.alloc ?_ (by first | omega | (simp; done) | (simp; omega)) _) | (refine Fr.setCell ?_ (by first | (left; simp; done) | (right; simp; done) | (right; simp; omega)) _)))) (byts_oneCell _) ?_)
      intro w2 hm2
      have e : splice Z 0 ((byts bs).take 512) = byts bs := by
        have hl := HSZ.out.len
        rw [HZR.out]; simp [splice, ← hl]
      rw [e] at hm2
      have b0 := hm2.p1.cell 0
      have b1 := hm2.p1.cell 1
      simp only [List.getElem?_cons_zero, List.getElem?_cons_succ] at b0 b1
      obtain ⟨ys, hys, hmy⟩ := Mem.pends.1 hm2.p2
      have hyl : (D.pend.take k).length = k := by rw [List.length_take, HN.out]; omega
      rw [hyl] at hmy
      have hq := hid (hmy.alloc [.int .i64 (si : Int), .slice (some ⟨wr.heap.size + 1, 0, none⟩) 512 512] 76)
      have HYS := hid hys
      have HYL := hid hyl
      have hrl := hmy.row_len
      clear hm2 hmy hys hyl
      go_wp2_with ((with_reducible show wpList _ _ _ (Oper.mk (some 27) _ _ _ _ _ :: _) _ _); refine wpList_append (by rfl) (.tmp 21) (.tmp 26) 30 (by rfl) Try.underlying30 JI.out JZ.out JS.out JB.out (by rfl) (by omega) (by rfl) (by rfl) hq.out.p1 rfl (by rfl) (news_built hq.out.blk.1) (by intro h; cases h) (by simp; exact ⟨rfl, rfl⟩) (by omega) (by omega) ?_)
      intro a' c' w3 hm3 _ _
      have hm4 := hid (Mem.push (L := D.pend.take k) (R := row T8.pe 2 (some ⟨gp, 0, none⟩) n pc (pzCells zs) * (all (zs.map (pzRow T8.u8)) * (pts g T8.dv (devCells D ia ic (some ⟨gp, 0, none⟩) pc ka kn kc) * (row T8.u8 1 ia D.img.length ic (byts D.img) * R)))) (u := T8.u8) (pt := T8.pe) (o := wr.heap.size + 1) (j := si) (a' := a') (c' := c') (by rw [HYL.out]; exact hm3.duo_row.p1.right.p3.right.eq (by first | rfl | (simp only [T8]; done))) HYS.out ZL.out)
      clear hm3
      have htk : Hid (D.pend.take (k + 1) = D.pend.take k ++ [(si, bs)]) := by
        obtain ⟨h1, h2⟩ := List.getElem?_eq_some_iff.1 HPZ.out
        show _ = _
        rw [List.take_succ_eq_append_getElem h1, h2]
      go_wp2_with fail
      go_roundw
      case rel => exact ⟨k + 1, a', c', by omega, by go_num, rfl, by rw [htk.out]; exact hm4.out⟩
      case measure => simp [intOf] <;> omega
    · obtain rfl : k = n := by omega
      rw [List.take_of_length_le (by rw [HN.out]; exact Nat.le_refl _)] at hm
      obtain ⟨ys, hys, hmy⟩ := Mem.pends.1 hm
      have hrl := hmy.row_len
      rw [HN.out] at hrl
      have HM := hid hmy
      have HYS := hid hys
      clear hm hmy hys
      go_wp2_with (go_at_call 43; refine (Clip_any _ _ _ _ hrl.2.1 hrl.2.2).mono ?_; rintro e w' ⟨rfl, rfl⟩; dsimp only)
      go_ret
      refine ⟨oa, rfl, Mem.pends.2 ⟨ys, HYS.out, ?_⟩⟩
      have h1 := HM.out
      rw [HN.out] at h1
      rw [HN.out]
      have h2 := h1.clip
      refine (Mem.dev0.2 ⟨ia, ic, pa, pc, ?_⟩).q2
      refine (Mem.pends.2 ⟨zs, HZ.out, ?_⟩).q2
      rw [HN.out]
      exact h2.eq (by ac_rfl)
end Go.Proofs.Ytpdppacafkdgdaa
