/- The walks of New, Load, Image, Crash, Arm (package sectors). -/
import Derived.Test.YtpdppacafkdgdaaSec2
set_option linter.unusedVariables false
set_option linter.unusedSimpArgs false
namespace Go.Le
open Go Go.RowKit
theorem fresh_ok (img : List UInt8) (n : Nat) (h : img.length = n * 512) (h1 : 1 ≤ n) (h2 : n ≤ 4096) : (Dev.fresh img).ok :=
  ⟨⟨n, h, h1, h2⟩, by simp [Dev.fresh], by simp [Dev.fresh], by simp [Dev.fresh], by simp [Dev.fresh], by simp [Dev.fresh], by simp [Dev.fresh]⟩
theorem byts_zeros (n : Nat) : List.replicate n (Value.int .u8 0) = byts (List.replicate n 0) := by simp [byts, byt]
theorem fallFrom_length (l : Loss) : ∀ (k : Nat) (img : List UInt8) (pend : List (Nat × List UInt8)), (∀ p ∈ pend, p.1 * 512 + 512 ≤ img.length ∧ p.2.length = 512) → (fallFrom l k img pend).length = img.length
  | _, _, [], _ => rfl
  | k, img, p :: r, h => by
    have h1 := h p (by simp)
    have h2 := put_length img p (remains l k) h1.1 h1.2
    unfold fallFrom
    rw [fallFrom_length l (k + 1) _ r (fun q hq => by rw [h2]; exact h q (by simp [hq])), h2]
theorem Dev.fall_ok {D : Dev} (h : D.ok) (l : Loss) : (D.fall l).ok := by
  have e : (D.fall l).img.length = D.img.length := fallFrom_length l 0 D.img D.pend h.pend
  obtain ⟨n, h1, h2⟩ := h.img
  exact ⟨⟨n, by rw [e]; exact h1, h2⟩, by simp [Dev.fall], by simp [Dev.fall], h.torn, h.off, h.keep, h.calls⟩
theorem wrap64_range (x : Int) : -9223372036854775808 ≤ wrap64 x ∧ wrap64 x ≤ 9223372036854775807 := by unfold wrap64; omega
theorem Dev.count_ok {D : Dev} (h : D.ok) : D.count.ok := by
  have ha := h.armed
  refine ⟨h.img, h.pend, ?_, h.torn, h.off, h.keep, wrap64_range _⟩
  simp only [Dev.count]
  split <;> omega
theorem Dev.up_ok {D : Dev} (h : D.ok) : D.up.ok := ⟨h.img, h.pend, by simp [Dev.up], h.torn, h.off, h.keep, h.calls⟩
structure Loss.ok (l : Loss) : Prop where
  torn : -9223372036854775808 ≤ l.torn ∧ l.torn ≤ 9223372036854775807
  off : -9223372036854775808 ≤ l.off ∧ l.off ≤ 9223372036854775807
  keep : ∀ x ∈ l.keep, x < 18446744073709551616
theorem Dev.ok.lossOk {D : Dev} (h : D.ok) : D.loss.ok := ⟨h.torn, h.off, h.keep⟩
/-- a new device in memory -/
theorem Mem.devNew {wb w : World} {R : HP} {t : Ty} {g : Nat} {img : List UInt8} {ia : Option Addr} {ic : Nat} (hok : (Dev.fresh img).ok) (h : Mem wb w (pts g t.dv (devCells (Dev.fresh img) ia ic none 0 none 0 0) * (row t.u8 1 ia img.length ic (byts img) * R))) : Mem wb w (Le.devAt t g (Dev.fresh img) * R) := by
  refine Mem.devAt.2 ⟨hok, none, 0, Mem.dev0.2 ⟨ia, ic, none, 0, ?_⟩⟩
  have h1 : Mem wb w (keepAt t (none, 0) (Dev.fresh img).loss * (pts g t.dv (devCells (Dev.fresh img) ia ic none 0 none 0 0) * (row t.u8 1 ia img.length ic (byts img) * R))) :=
    Mem.row_none.2 ⟨rfl, rfl, rfl, h⟩
  exact (Mem.pends_nil h1.q2).q2
end Go.Le
namespace Go.Proofs.Ytpdppacafkdgdaa
open Go Go.RowKit Go.Le

theorem New_no (w : World) (n : Int) (hn : n < 1 ∨ 4096 < n) (hn1 : -9223372036854775808 ≤ n) (hn2 : n ≤ 9223372036854775807) :
    Calls Try.prog 21 #[.int .i64 n] w fun e w' => e = .returned (.tuple #[.pointer none, .int .i64 4]) ∧ w = w' := by
  by_cases h1 : n < 1
  · go_enter Try.func21, Try.ntmps21
    go_wp2
    go_ret2
    exact ⟨rfl, rfl⟩
  · have h2 : 4096 < n := by omega
    go_enter Try.func21, Try.ntmps21
    go_wp2
    go_ret2
    exact ⟨rfl, rfl⟩
theorem New_any0 (wb w : World) (R : HP) (h : Mem wb w R) (n : Nat) (h1 : 1 ≤ n) (h2 : n ≤ 4096) :
    Calls Try.prog 21 #[.int .i64 (n : Int)] w fun e w' => ∃ g, e = .returned (.tuple #[.pointer (some ⟨g, 0, none⟩), .int .i64 0]) ∧ Mem wb w' (devAt T8 g (Dev.fresh (List.replicate (n * 512) 0)) * R) := by
  have hmk := run_make_bytes (P := Try.prog) 34 5 Try.underlying34 u8info .i64 .i64 ((n : Int) * 512) (by omega) (by omega)
  have e5 : ((n : Int) * 512).toNat = n * 512 := by omega
  rw [e5] at hmk
  have H := hid h
  clear h e5
  go_enter Try.func21, Try.ntmps21
  go_wp2
  go_ret2
  refine ⟨w.heap.size + 1, rfl, ?_⟩
  have hd := (H.out.alloc (List.replicate (n * 512) (.int .u8 0)) 5).alloc (devCells (Dev.fresh (List.replicate (n * 512) 0)) (some ⟨w.heap.size, 0, none⟩) (n * 512) none 0 none 0 0) 74
  have e6 : (w.alloc (.cells (List.replicate (n * 512) (Value.int .u8 0)).toArray 5)).heap.size = w.heap.size + 1 := by simp
  rw [e6] at hd
  refine Mem.devNew (ia := some ⟨w.heap.size, 0, none⟩) (ic := n * 512) (fresh_ok _ n (by simp) h1 h2) ?_
  refine (Mem.of_row rfl (rest := []) (by rw [byts_length]; omega) (by simp) (by omega) (by simp [byts_length]) ?_).p1
  rw [List.append_nil, ← byts_zeros]
  simpa [devCells, Dev.fresh, T8] using hd.p1

theorem New_any (wb w : World) (R : HP) (h : Mem wb w R) (n : Nat) (h1 : 1 ≤ n) (h2 : n ≤ 4096) :
    Calls Try.prog 21 #[.int .i64 (n : Int)] w fun e w' => ∃ g, e = .returned (.tuple #[.pointer (some ⟨g, 0, none⟩), .int .i64 0]) ∧ Mem wb w' (devAt T8 g (Dev.fresh (zrs (n * 512))) * R) :=
  New_any0 wb w R h n h1 h2

theorem Clone_any (wb w : World) (R : HP) (h : Mem wb w R) (a : Option Addr) (n c : Nat) (l : List Nat) (hs : Sl w a n c (u64s l)) (hn : n ≤ 1000000000) :
    Calls Try.prog 42 #[.slice a n c] w fun e w' => ∃ a' c', e = .returned (.slice a' n c') ∧ Mem wb w' (row 39 1 a' n c' (u64s l) * R) := by
  have H := hid h
  have S := hid hs
  clear h hs
  have hnil := fun (w : World) (a : Option Addr) (n c : Nat) => Lib.run_eql_slice_nil (P := Try.prog) w 36 39 a n c 0 0 Try.underlying36
  cases a with
  | none =>
    obtain ⟨rfl, rfl⟩ := news_nil S.out rfl
    have hl : l = [] := by have := S.out.len; simpa [u64s] using this
    subst hl
    clear S
    go_enter Try.func42, Try.ntmps42
    go_wp2_with fail
    go_ret
    exact ⟨none, 0, rfl, Mem.row_none.2 ⟨rfl, rfl, rfl, H.out⟩⟩
  | some p =>
    obtain ⟨i, hi, hz, hsz, hby⟩ := info_parts u64info
    have JI := hid hi
    have JZ := hid hz
    have JS := hid hsz
    have JB := hid hby
    clear hi hz hsz hby
    have hm1 := hid (Mem.of_row (a := some ⟨w.heap.size, 0, none⟩) (s := 1) (n := 0) (c := 0) (xs := []) (rest := []) rfl rfl (Nat.le_refl _) (by omega) (by simp) (H.out.alloc [] 39))
    go_enter Try.func42, Try.ntmps42
    go_wp2_with ((with_reducible show wpList _ _ _ (Oper.mk (some 7) _ _ _ _ _ :: _) _ _); refine wpList_append (by rfl) (.tmp 5) (.tmp 6) 36 (by rfl) Try.underlying36 JI.out JZ.out JS.out JB.out (by rfl) (by omega) (by rfl) (by rfl) hm1.out rfl (by rw [S.out.len, Nat.mul_one]) (news_sl (S.out.ext (by repeat (first | exact Fr.refl _ _ _ | assumption | apply Fr.drew | (refine Fr.drewN ?_ _) | (refine Fr.alloc ?_ (by first | omega | (simp; done) | (simp; omega)) _) | (refine Fr.setCell ?_ (by first | (left; simp; done) | (right; simp; done) | (right; simp; omega)) _))))) (news_nil S.out) (by simp [u64s]; intros; rfl) (by omega) (by omega) ?_)
    intro a' c' w' hm2 _ _
    go_wp2
    go_ret
    have := hm2.duo_row
    simp only [Nat.zero_add, List.nil_append] at this ⊢
    exact ⟨a', c', rfl, this⟩

theorem Image_any (wb w : World) (R : HP) (g : Nat) (D : Dev) (ka : Option Addr) (kn kc : Nat) (h : Mem wb w (dev0 T8 g D ka kn kc * R)) (hk : D.ok) :
    Calls Try.prog 16 #[.pointer (some ⟨g, 0, none⟩)] w fun e w' => ∃ a c, e = .returned (.slice a D.img.length c) ∧ Mem wb w' (row 5 1 a D.img.length c (byts D.img) * (dev0 T8 g D ka kn kc * R)) := by
  obtain ⟨ia, ic, pa, pc, hm⟩ := Mem.dev0.1 h
  obtain ⟨n, hn, h1, h2⟩ := hk.img
  have hl : D.img.length ≤ 2097152 := by omega
  obtain ⟨gi, rest, rfl, -, i1, i2, -, -⟩ := hm.p1.row_at (by omega)
  have hmk := run_make_bytes (P := Try.prog) 34 5 Try.underlying34 u8info .i64 .i64 (D.img.length : Int) (by omega) (by omega)
  rw [Int.toNat_natCast] at hmk
  have c0 := hm.cell 0
  simp only [devCells, List.getElem?_cons_zero] at c0
  have c0' : ∀ o : Obj, (w.alloc o).cell? _ = _ := fun o => Fr.cell_ext (w := w) (by repeat (first | exact Fr.refl _ _ _ | assumption | apply Fr.drew | (refine Fr.drewN ?_ _) | (refine Fr.alloc ?_ (by first | omega | (simp; done) | (simp; omega)) _) | (refine Fr.setCell ?_ (by first | (left; simp; done) | (right; simp; done) | (right; simp; omega)) _))) c0
  have HS := hid hm.p1.row_sl
  have HM := hid (h.alloc (List.replicate D.img.length (.int .u8 0)) 5)
  clear hm h hk hn h1 h2 rest
  generalize hL : D.img.length = L at *
  have HLL := hid hL
  clear hL
  go_enter Try.func16, Try.ntmps16
  go_wp2_with ((with_reducible show wpList _ _ _ (Oper.mk (some 15) _ _ _ _ _ :: _) _ _); refine wpList_copy (by rfl) (.tmp 10) (.tmp 14) 34 34 (by rfl) Try.underlying34 u8size (by rfl) (by rfl) HM.out (by rfl) 0 L (by show _ = min _ _; omega) (fun _ => rfl) (by simp) (HS.out.ext (by repeat (first | exact Fr.refl _ _ _ | assumption | apply Fr.drew | (refine Fr.drewN ?_ _) | (refine Fr.alloc ?_ (by first | omega | (simp; done) | (simp; omega)) _) | (refine Fr.setCell ?_ (by first | (left; simp; done) | (right; simp; done) | (right; simp; omega)) _)))) (byts_oneCell _) ?_; intro w2 hm2)
  go_ret
  refine ⟨_, L, rfl, ?_⟩
  have e : splice (List.replicate L (Value.int .u8 0)) 0 ((byts D.img).take L) = byts D.img := by
    have hb : (byts D.img).length = L := by rw [byts_length, HLL.out]
    simp [splice, ← hb]
  rw [e] at hm2
  exact Mem.of_row (rest := []) rfl (by rw [byts_length, HLL.out]; omega) (Nat.le_refl _) (by omega) (by simp [byts_length, HLL.out]) (by simpa using hm2)

theorem Crash_any (wb w : World) (R : HP) (g : Nat) (D : Dev) (h : Mem wb w (devAt T8 g D * R)) (hpl : D.pend.length ≤ 4294967296)
    (l : Loss) (la : Option Addr) (lc : Nat) (hs : ∀ w', Mem wb w' R → Sl w' la l.keep.length lc (u64s l.keep)) (hl : l.ok) :
    Calls Try.prog 15 #[.pointer (some ⟨g, 0, none⟩), .agg #[.slice la l.keep.length lc, .int .i64 l.torn, .int .i64 l.off]] w fun e w' => e = .returned (.int .i64 (D.crash l).2) ∧ Mem wb w' (devAt T8 g (D.crash l).1 * R) := by
  have HH := hid h
  obtain ⟨hok, ka, kc, h1⟩ := Mem.devAt.1 h
  obtain ⟨ia, ic, pa, pc, hm⟩ := Mem.dev0.1 h1
  obtain ⟨-, -, c2, -⟩ := dev_cells hm
  have c2' : ∀ o : Obj, (w.alloc o).cell? _ = _ := fun o => Fr.cell_ext (w := w) (by repeat (first | exact Fr.refl _ _ _ | assumption | apply Fr.drew | (refine Fr.drewN ?_ _) | (refine Fr.alloc ?_ (by first | omega | (simp; done) | (simp; omega)) _) | (refine Fr.setCell ?_ (by first | (left; simp; done) | (right; simp; done) | (right; simp; omega)) _))) c2
  have H1 := hid h1
  have HOK := hid hok
  have HS := hid hs
  have HK := hid hl
  have HC : Hid (D.crash l = if D.down then (D, 80) else (D.fall l, 0)) := rfl
  clear h h1 hok hs hl hm
  generalize D.crash l = q at *
  cases hd : D.down
  all_goals
    rw [hd] at c2 c2' HC
    have HD := hid hd
    clear hd
  · simp only [Bool.false_eq_true, if_false] at HC
    obtain rfl := HC.out
    go_enter Try.func15, Try.ntmps15
    go_wp2_with fail
    refine (fall_any wb _ (keepAt T8 (ka, kc) D.loss * R) g D ka _ kc (H1.out.alloc' _) HOK.out hpl l la lc (fun w' hw => HS.out w' hw.right) HK.out.keep HK.out.torn HK.out.off).mono ?_
    rintro e w2 ⟨rfl, hm2⟩
    dsimp only
    go_wp2
    go_ret
    exact ⟨rfl, Mem.devAt.2 ⟨Dev.fall_ok HOK.out l, ka, kc, hm2⟩⟩
  · simp only [if_true] at HC
    obtain rfl := HC.out
    go_enter Try.func15, Try.ntmps15
    go_wp2
    go_ret
    exact ⟨rfl, HH.out.alloc' _⟩
end Go.Proofs.Ytpdppacafkdgdaa
