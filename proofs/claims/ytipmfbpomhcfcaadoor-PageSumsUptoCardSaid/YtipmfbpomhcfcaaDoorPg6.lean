/- The walks of page.Open and page.OpenHead. -/
import Derived.Test.YtipmfbpomhcfcaaDoorPg5
set_option linter.unusedVariables false
set_option linter.unusedSimpArgs false
namespace Go.Le
open Go
def sub (l : List UInt8) (i j : Nat) : List UInt8 := (l.take j).drop i
/-- why a page that is whole is refused: its number, count, length; are the slack bytes zeros -/
def opWhyN (asked : Int) (N C L : Nat) (z8 : Bool) (zr : Bool) : Int :=
  if (N : Int) ≠ asked then 102 else if N < 1 ∨ 250 ≤ N ∨ C = 0 then 4 else if z8 = false then 104 else if L = 0 then 6 else if 1008 < L then 5 else if zr = false then 104 else 0
def opWhy (asked : Int) (l : List UInt8) : Int := opWhyN asked (num (sub l 2 4)) (num (sub l 4 6)) (num (sub l 6 8)) (zeros (sub l 8 12)) (zeros (l.drop (16 + num (sub l 6 8))))
def opErr (asked : Int) (l : List UInt8) : Int := if whErr 2 l ≠ 0 then whErr 2 l else opWhy asked l
def opCount (asked : Int) (l : List UInt8) : Nat := if opErr asked l = 0 then num (sub l 4 6) else 0
def opCont (asked : Int) (l : List UInt8) : List UInt8 := if opErr asked l = 0 then (l.drop 16).take (num (sub l 6 8)) else []
/-- why a store's head that is whole is refused -/
def ohWhy (z2 z8 z24 : Bool) (L P U R : Nat) : Int :=
  if z2 = false ∨ z8 = false ∨ z24 = false then 104 else if L ≠ 8 then 12 else if mayB P U R = true then 0 else 4
def ohErr (l : List UInt8) : Int := if whErr 1 l ≠ 0 then whErr 1 l else ohWhy (zeros (sub l 2 6)) (zeros (sub l 8 12)) (zeros (l.drop 24)) (num (sub l 6 8)) (num (sub l 16 18)) (num (sub l 18 20)) (num (sub l 20 24))
def ohOut (l : List UInt8) (x : Nat) : Nat := if ohErr l = 0 then x else 0
theorem whErr_len {kind : UInt8} {l : List UInt8} (h : whErr kind l = 0) : l.length = 1024 := by
  unfold whErr at h
  split at h
  · omega
  · omega
theorem num_sub_lt (l : List UInt8) (i : Nat) : num (sub l i (i + 2)) < 65536 := by
  have h := num_le (sub l i (i + 2))
  have hl : (sub l i (i + 2)).length ≤ 2 := by simp [sub]; omega
  have : 256 ^ (sub l i (i + 2)).length ≤ 256 ^ 2 := Nat.pow_le_pow_right (by omega) hl
  omega
theorem sub_cont (l : List UInt8) (L : Nat) : sub l 16 (16 + L) = (l.drop 16).take L := by
  unfold sub; rw [List.drop_take]; congr 1; omega
theorem byts_sub (l : List UInt8) (i j : Nat) : ((byts l).take j).drop i = byts (sub l i j) := by simp [byts, sub]
end Go.Le
namespace Go.Proofs.YtipmfbpomhcfcaaDoor
open Go Go.RowKit Go.Le

theorem results_tmp4 {fn : Func} {t u v x : Tmp} (h : fn.results = #[.tmp t, .tmp u, .tmp v, .tmp x]) (tmps : Array Value) (P : Program) (w : World) :
    (results fn tmps).run P w = .ok (.tuple #[tmps.getD t undef, tmps.getD u undef, tmps.getD v undef, tmps.getD x undef]) w := by simp [results, h]

theorem number_left (a : Option Addr) (n c : Nat) (l : List UInt8) (w : World) (k : Nat) (h : Sl w a n c (byts l)) (hn : n ≤ 6) :
    Calls Tryd.prog 28 #[.slice a n c] (w.drewN k) fun e w' => e = .returned (.int .i64 (num l : Nat)) ∧ ∃ m, w' = w.drewN m :=
  (number_any a n c l (w.drewN k) (by exact h.ext (by exact ⟨rfl, rfl, rfl, Nat.le_refl _, fun _ _ _ => rfl⟩)) hn).mono fun _ _ h => ⟨h.1, k, h.2.symm⟩

set_option maxRecDepth 100000 in
set_option maxHeartbeats 2000000 in
theorem Open_any (asked : Int) (a : Option Addr) (m c : Nat) (l : List UInt8) (w : World) (ht : Tabled w) (h : Sl w a m c (byts l)) :
    Calls Tryd.prog 13 #[.slice a m c, .int .i64 asked] w fun e w' => ∃ a' n' c', e = .returned (.tuple #[.int .i64 (opCount asked l : Nat), .slice a' n' c', .int .i64 (opErr asked l)]) ∧ Ow w' w.heap.size 5 a' n' c' (byts (opCont asked l)) ∧ Fr w.heap.size [] w w' := by
  have hle := h.le
  have hcap := h.cap
  have hlen := h.len
  rw [byts_length] at hlen
  have bad : Hid (∀ x : Int, opErr asked l = x → x ≠ 0 → ∀ w', Fr w.heap.size [] w w' → ∃ a' n' c', Ending.returned (.tuple #[.int .i64 0, .slice none 0 0, .int .i64 x]) = .returned (.tuple #[.int .i64 (opCount asked l : Nat), .slice a' n' c', .int .i64 (opErr asked l)]) ∧ Ow w' w.heap.size 5 a' n' c' (byts (opCont asked l)) ∧ Fr w.heap.size [] w w') := by
    intro x hx hx0 w' hf
    refine ⟨none, 0, 0, by rw [opCount, hx, if_neg hx0]; rfl, ?_, hf⟩
    rw [opCont, hx, if_neg hx0]
    exact Ow.nil _ _ _
  have HT := hid ht
  clear ht
  by_cases hw : whErr 2 l = 0
  case neg =>
    have hb : Hid (opErr asked l = whErr 2 l) := by show _ = _; rw [opErr, if_pos hw]
    have hw1 : (whErr 2 l != 0) = true := by simpa using hw
    have HW := hid hw
    clear hw hlen
    go_enter Tryd.func13, Tryd.ntmps13
    go_wp2_with (go_at_call 27; refine (whole_any _ 2 rfl _ _ _ l _ HT.out h).mono ?_; rintro e w1 ⟨rfl, hf⟩)
    go_ret3
    exact bad.out _ hb.out HW.out _ hf
  have hl := whErr_len hw
  have hm : m = 1024 := by omega
  subst hm
  obtain ⟨b, o, rfl⟩ := h.addr (by omega)
  have hb : Hid (opErr asked l = opWhyN asked (num (sub l 2 4)) (num (sub l 4 6)) (num (sub l 6 8)) (zeros (sub l 8 12)) (zeros (l.drop (16 + num (sub l 6 8))))) := by show _ = _; rw [opErr, if_neg (by simpa using hw)]; rfl
  have HW := hid hw
  have HL := hid hlen
  clear hw hl hlen
  have hc2 : (c = 2) = False := by simp; omega
  have hc4 : (c = 4) = False := by simp; omega
  have hc6 : (c = 6) = False := by simp; omega
  have hc8 : (c = 8) = False := by simp; omega
  have hc16 : (c = 16) = False := by simp; omega
  have lc4 : (4 : Int) ≤ c := by omega
  have lc6 : (6 : Int) ≤ c := by omega
  have lc8 : (8 : Int) ≤ c := by omega
  have lc12 : (12 : Int) ≤ c := by omega
  have H2 := h.cut2 2 4 (some ⟨b, o + 2, none⟩) 2 (c - 2) (by omega) (by omega) (by rw [if_neg (by omega)]; rfl) rfl rfl
  have H4 := h.cut2 4 6 (some ⟨b, o + 4, none⟩) 2 (c - 4) (by omega) (by omega) (by rw [if_neg (by omega)]; rfl) rfl rfl
  have H6 := h.cut2 6 8 (some ⟨b, o + 6, none⟩) 2 (c - 6) (by omega) (by omega) (by rw [if_neg (by omega)]; rfl) rfl rfl
  have H8 := h.cut2 8 12 (some ⟨b, o + 8, none⟩) 4 (c - 8) (by omega) (by omega) (by rw [if_neg (by omega)]; rfl) rfl rfl
  rw [byts_sub] at H2 H4 H6 H8
  have n2 := num_sub_lt l 2
  have n4 := num_sub_lt l 4
  have n6 := num_sub_lt l 6
  go_enter Tryd.func13, Tryd.ntmps13
  go_wp2_with (go_at_call 27; refine (whole_any _ 2 rfl _ _ _ l _ HT.out h).mono ?_; rintro e w1 ⟨rfl, hf⟩; rw [HW.out]; dsimp only)
  have K2 := H2.ext hf
  have K4 := H4.ext hf
  have K6 := H6.ext hf
  go_quiet ((go_at_call 28; first | exact number_left _ _ _ _ _ _ K2 (by omega) | exact number_left _ _ _ _ _ _ K4 (by omega) | exact number_left _ _ _ _ _ _ K6 (by omega)))
  have hq : Fr w.heap.size [] w (w1.drewN nq) := (by repeat (first | exact Fr.refl _ _ _ | assumption | apply Fr.drew | (refine Fr.drewN ?_ _) | (refine Fr.alloc ?_ (by first | omega | (simp; done) | (simp; omega)) _) | (refine Fr.setCell ?_ (by first | (left; simp; done) | (right; simp; done) | (right; simp; omega)) _)))
  generalize hw2 : w1.drewN nq = w2 at *
  clear hw2 hf K2 K4 K6 H2 H4 H6 w1
  have K8 := H8.ext hq
  have KA := h.ext hq
  have hcnt : Hid (opErr asked l = 0 → opCount asked l = num (sub l 4 6)) := fun hx => by rw [opCount, if_pos hx]
  have hcont : Hid (opErr asked l = 0 → opCont asked l = sub l 16 (16 + num (sub l 6 8))) := fun hx => by rw [opCont, if_pos hx, sub_cont]
  generalize hN : num (sub l 2 4) = N at *
  generalize hC : num (sub l 4 6) = C at *
  generalize hL : num (sub l 6 8) = L at *
  clear hN hC hL
  by_cases t1 : (N : Int) = asked
  case neg =>
    have t1' : ((N : Int) != asked) = true := by simpa using t1
    have hx : Hid (opErr asked l = 102) := by show _ = _; rw [hb.out]; rw [opWhyN, if_pos t1]
    clear hb
    go_wp2_with fail
    go_ret3
    exact bad.out _ hx.out (by omega) _ hq
  subst t1
  by_cases t2 : N < 1
  case pos =>
    have t2' : (N : Int) < 1 := by omega
    have hx : Hid (opErr (N : Int) l = 4) := by show _ = _; rw [hb.out]; rw [opWhyN, if_neg (by simp), if_pos (.inl t2)]
    clear hb
    go_wp2_with fail
    go_ret3
    exact bad.out _ hx.out (by omega) _ hq
  have t2' : ¬ (N : Int) < 1 := by omega
  by_cases t3 : 250 ≤ N
  case pos =>
    have t3' : (250 : Int) ≤ N := by omega
    have hx : Hid (opErr (N : Int) l = 4) := by show _ = _; rw [hb.out]; rw [opWhyN, if_neg (by simp), if_pos (.inr (.inl t3))]
    clear hb
    go_wp2_with fail
    go_ret3
    exact bad.out _ hx.out (by omega) _ hq
  have t3' : ¬ (250 : Int) ≤ N := by omega
  by_cases t4 : C = 0
  case pos =>
    have t4' : ((C : Int) == 0) = true := by simpa using t4
    have hx : Hid (opErr (N : Int) l = 4) := by show _ = _; rw [hb.out]; rw [opWhyN, if_neg (by simp), if_pos (.inr (.inr t4))]
    clear hb
    go_wp2_with fail
    go_ret3
    exact bad.out _ hx.out (by omega) _ hq
  have t4' : ((C : Int) == 0) = false := by simpa using t4
  generalize hz8 : zeros (sub l 8 12) = z8 at *
  have HZ8 := hid hz8
  clear hz8
  by_cases t5 : z8 = false
  case pos =>
    subst t5
    have hx : Hid (opErr (N : Int) l = 104) := by show _ = _; rw [hb.out]; rw [opWhyN, if_neg (by simp), if_neg (by omega), if_pos rfl]
    clear hb
    go_wp2_with (first | (go_at_call 29; refine (zero_any _ _ _ _ _ K8).mono ?_; rintro e w3 ⟨rfl, rfl⟩; rw [HZ8.out]; dsimp only))
    go_ret3
    exact bad.out _ hx.out (by omega) _ hq
  have t5' : z8 = true := by simpa using t5
  subst t5'
  by_cases t6 : L = 0
  case pos =>
    have t6' : ((L : Int) == 0) = true := by simpa using t6
    have hx : Hid (opErr (N : Int) l = 6) := by show _ = _; rw [hb.out]; rw [opWhyN, if_neg (by simp), if_neg (by omega), if_neg (by simp), if_pos t6]
    clear hb
    go_wp2_with (first | (go_at_call 29; refine (zero_any _ _ _ _ _ K8).mono ?_; rintro e w3 ⟨rfl, rfl⟩; rw [HZ8.out]; dsimp only))
    go_ret3
    exact bad.out _ hx.out (by omega) _ hq
  have t6' : ((L : Int) == 0) = false := by simpa using t6
  by_cases t7 : 1008 < L
  case pos =>
    have t7' : (1008 : Int) < L := by omega
    have hx : Hid (opErr (N : Int) l = 5) := by show _ = _; rw [hb.out]; rw [opWhyN, if_neg (by simp), if_neg (by omega), if_neg (by simp), if_neg t6, if_pos t7]
    clear hb
    go_wp2_with (first | (go_at_call 29; refine (zero_any _ _ _ _ _ K8).mono ?_; rintro e w3 ⟨rfl, rfl⟩; rw [HZ8.out]; dsimp only))
    go_ret3
    exact bad.out _ hx.out (by omega) _ hq
  have t7' : ¬ (1008 : Int) < L := by omega
  generalize hzr : zeros (l.drop (16 + L)) = zr at *
  have HZR := hid hzr
  clear hzr
  have lr : (16 + (L : Int)) ≤ 1024 := by omega
  have er : (List.take 1024 (byts l)).drop (16 + L) = byts (l.drop (16 + L)) := by rw [List.take_of_length_le (by rw [byts_length, HL.out]; omega)]; simp [byts]
  have eb : ((byts l).take (16 + L)).drop 16 = byts (sub l 16 (16 + L)) := byts_sub _ _ _
  have KB := KA.cut 16 (16 + L) (by omega) (by omega) (some ⟨b, o + 16, none⟩) (by rw [if_neg (by omega)]; rfl)
  rw [eb] at KB
  clear eb
  obtain ⟨i, hi, hz, hsz, hby⟩ := info_parts infoU8
  have HI := hid hi
  have HZ := hid hz
  have HS := hid hsz
  have HB := hid hby
  clear hi hz hsz hby
  have fin : Hid (∀ a' c' w4, opErr (N : Int) l = 0 → Ow w4 w.heap.size 5 a' L c' (byts (sub l 16 (16 + L))) → Fr w.heap.size [] w w4 →
      ∃ a'' n'' c'', Ending.returned (.tuple #[.int .i64 (C : Int), .slice a' L c', .int .i64 0]) = .returned (.tuple #[.int .i64 (opCount (N : Int) l : Nat), .slice a'' n'' c'', .int .i64 (opErr (N : Int) l)]) ∧ Ow w4 w.heap.size 5 a'' n'' c'' (byts (opCont (N : Int) l)) ∧ Fr w.heap.size [] w w4) := by
    intro a' c' w4 hx how hf
    refine ⟨a', L, c', by rw [hx, hcnt.out hx], ?_, hf⟩
    rw [hcont.out hx]
    exact how
  by_cases hcl : c = 16 + L
  · have KR := KA.cut (16 + L) 1024 (by omega) (by omega) (some ⟨b, o, none⟩) (by rw [if_pos hcl])
    rw [er] at KR
    clear er
    have hcl' : (c = 16 + L) = True := by simp [hcl]
    clear hcl
    by_cases t8 : zr = false
    · subst t8
      have hx : Hid (opErr (N : Int) l = 104) := by show _ = _; rw [hb.out]; rw [opWhyN, if_neg (by simp), if_neg (by omega), if_neg (by simp), if_neg t6, if_neg t7, if_pos rfl]
      clear hb
      go_wp2_with (go_at_call 29; first | ((with_reducible refine (zero_any _ _ _ _ _ K8).mono ?_); rintro e w3 ⟨rfl, rfl⟩; rw [HZ8.out]; dsimp only) | ((with_reducible refine (zero_any _ _ _ _ _ KR).mono ?_); rintro e w3 ⟨rfl, rfl⟩; rw [HZR.out]; dsimp only))
      go_ret3
      exact bad.out _ hx.out (by omega) _ hq
    · have t8' : zr = true := by simpa using t8
      subst t8'
      have hx : Hid (opErr (N : Int) l = 0) := by show _ = _; rw [hb.out]; rw [opWhyN, if_neg (by simp), if_neg (by omega), if_neg (by simp), if_neg t6, if_neg t7, if_neg (by simp)]
      clear hb
      go_wp2_with (first | (go_at_call 29; first | ((with_reducible refine (zero_any _ _ _ _ _ K8).mono ?_); rintro e w3 ⟨rfl, rfl⟩; rw [HZ8.out]; dsimp only) | ((with_reducible refine (zero_any _ _ _ _ _ KR).mono ?_); rintro e w3 ⟨rfl, rfl⟩; rw [HZR.out]; dsimp only)) | ((with_reducible show wpList _ _ _ (Oper.mk (some 61) _ _ _ _ _ :: _) _ _); refine wpList_app (by rfl) (.const (.slice none 0 0)) (.tmp 60) 22 (by rfl) w.heap.size 5 Tryd.underlying22 HI.out HZ.out HS.out HB.out (by rfl) (by rfl) (by rfl) (Ow.nil _ _ _) KB (byts_oneCell _) (by simp [maxLen]; omega) (by omega) hq.size ?_))
      intro a' c' w4 how hfr hn hlie
      go_wp2
      go_ret3
      have hf4 : Fr w.heap.size [] w w4 := Fr.call' (k := hfr) (h := hq) (hS := by simp [blk])
      exact fin.out _ _ _ hx.out how hf4
  · have KR := KA.cut (16 + L) 1024 (by omega) (by omega) (some ⟨b, o + (16 + L), none⟩) (by rw [if_neg hcl, Option.map_some, Addr.add_lit])
    rw [er] at KR
    clear er
    have hcl' : (c = 16 + L) = False := by simp [hcl]
    clear hcl
    by_cases t8 : zr = false
    · subst t8
      have hx : Hid (opErr (N : Int) l = 104) := by show _ = _; rw [hb.out]; rw [opWhyN, if_neg (by simp), if_neg (by omega), if_neg (by simp), if_neg t6, if_neg t7, if_pos rfl]
      clear hb
      go_wp2_with (go_at_call 29; first | ((with_reducible refine (zero_any _ _ _ _ _ K8).mono ?_); rintro e w3 ⟨rfl, rfl⟩; rw [HZ8.out]; dsimp only) | ((with_reducible refine (zero_any _ _ _ _ _ KR).mono ?_); rintro e w3 ⟨rfl, rfl⟩; rw [HZR.out]; dsimp only))
      go_ret3
      exact bad.out _ hx.out (by omega) _ hq
    · have t8' : zr = true := by simpa using t8
      subst t8'
      have hx : Hid (opErr (N : Int) l = 0) := by show _ = _; rw [hb.out]; rw [opWhyN, if_neg (by simp), if_neg (by omega), if_neg (by simp), if_neg t6, if_neg t7, if_neg (by simp)]
      clear hb
      go_wp2_with (first | (go_at_call 29; first | ((with_reducible refine (zero_any _ _ _ _ _ K8).mono ?_); rintro e w3 ⟨rfl, rfl⟩; rw [HZ8.out]; dsimp only) | ((with_reducible refine (zero_any _ _ _ _ _ KR).mono ?_); rintro e w3 ⟨rfl, rfl⟩; rw [HZR.out]; dsimp only)) | ((with_reducible show wpList _ _ _ (Oper.mk (some 61) _ _ _ _ _ :: _) _ _); refine wpList_app (by rfl) (.const (.slice none 0 0)) (.tmp 60) 22 (by rfl) w.heap.size 5 Tryd.underlying22 HI.out HZ.out HS.out HB.out (by rfl) (by rfl) (by rfl) (Ow.nil _ _ _) KB (byts_oneCell _) (by simp [maxLen]; omega) (by omega) hq.size ?_))
      intro a' c' w4 how hfr hn hlie
      go_wp2
      go_ret3
      have hf4 : Fr w.heap.size [] w w4 := Fr.call' (k := hfr) (h := hq) (hS := by simp [blk])
      exact fin.out _ _ _ hx.out how hf4

set_option maxRecDepth 100000 in
set_option maxHeartbeats 2000000 in
theorem OpenHead_any (a : Option Addr) (m c : Nat) (l : List UInt8) (w : World) (ht : Tabled w) (h : Sl w a m c (byts l)) :
    Calls Tryd.prog 16 #[.slice a m c] w fun e w' => e = .returned (.tuple #[.int .i64 (ohOut l (num (sub l 16 18)) : Nat), .int .i64 (ohOut l (num (sub l 18 20)) : Nat), .int .i64 (ohOut l (num (sub l 20 24)) : Nat), .int .i64 (ohErr l)]) ∧ Fr w.heap.size [] w w' := by
  have hle := h.le
  have hcap := h.cap
  have hlen := h.len
  rw [byts_length] at hlen
  have bad : Hid (∀ x : Int, ohErr l = x → x ≠ 0 → Ending.returned (.tuple #[.int .i64 0, .int .i64 0, .int .i64 0, .int .i64 x]) = .returned (.tuple #[.int .i64 (ohOut l (num (sub l 16 18)) : Nat), .int .i64 (ohOut l (num (sub l 18 20)) : Nat), .int .i64 (ohOut l (num (sub l 20 24)) : Nat), .int .i64 (ohErr l)])) := by
    intro x hx hx0
    simp [ohOut, hx, hx0]
  have HT := hid ht
  clear ht
  by_cases hw : whErr 1 l = 0
  case neg =>
    have hb : Hid (ohErr l = whErr 1 l) := by show _ = _; rw [ohErr, if_pos hw]
    have hw1 : (whErr 1 l != 0) = true := by simpa using hw
    have HW := hid hw
    clear hw hlen
    go_enter Tryd.func16, Tryd.ntmps16
    go_wp2_with (go_at_call 27; refine (whole_any _ 1 rfl _ _ _ l _ HT.out h).mono ?_; rintro e w1 ⟨rfl, hf⟩)
    refine bodyPost_ret (results_tmp4 rfl _ _ _) rfl ?_
    exact ⟨bad.out _ hb.out HW.out, hf⟩
  have hl := whErr_len hw
  have hm : m = 1024 := by omega
  subst hm
  obtain ⟨b, o, rfl⟩ := h.addr (by omega)
  have hb : Hid (ohErr l = ohWhy (zeros (sub l 2 6)) (zeros (sub l 8 12)) (zeros (l.drop 24)) (num (sub l 6 8)) (num (sub l 16 18)) (num (sub l 18 20)) (num (sub l 20 24))) := by show _ = _; rw [ohErr, if_neg (by simpa using hw)]
  have HW := hid hw
  have HL := hid hlen
  clear hw hl hlen
  have hc2 : (c = 2) = False := by simp; omega
  have lc6 : (6 : Int) ≤ c := by omega
  have H2 := h.cut2 2 6 (some ⟨b, o + 2, none⟩) 4 (c - 2) (by omega) (by omega) (by rw [if_neg (by omega)]; rfl) rfl rfl
  rw [byts_sub] at H2
  have hc6 : (c = 6) = False := by simp; omega
  have lc8 : (8 : Int) ≤ c := by omega
  have H6 := h.cut2 6 8 (some ⟨b, o + 6, none⟩) 2 (c - 6) (by omega) (by omega) (by rw [if_neg (by omega)]; rfl) rfl rfl
  rw [byts_sub] at H6
  have hc8 : (c = 8) = False := by simp; omega
  have lc12 : (12 : Int) ≤ c := by omega
  have H8 := h.cut2 8 12 (some ⟨b, o + 8, none⟩) 4 (c - 8) (by omega) (by omega) (by rw [if_neg (by omega)]; rfl) rfl rfl
  rw [byts_sub] at H8
  have hc16 : (c = 16) = False := by simp; omega
  have lc18 : (18 : Int) ≤ c := by omega
  have H16 := h.cut2 16 18 (some ⟨b, o + 16, none⟩) 2 (c - 16) (by omega) (by omega) (by rw [if_neg (by omega)]; rfl) rfl rfl
  rw [byts_sub] at H16
  have hc18 : (c = 18) = False := by simp; omega
  have lc20 : (20 : Int) ≤ c := by omega
  have H18 := h.cut2 18 20 (some ⟨b, o + 18, none⟩) 2 (c - 18) (by omega) (by omega) (by rw [if_neg (by omega)]; rfl) rfl rfl
  rw [byts_sub] at H18
  have hc20 : (c = 20) = False := by simp; omega
  have lc24 : (24 : Int) ≤ c := by omega
  have H20 := h.cut2 20 24 (some ⟨b, o + 20, none⟩) 4 (c - 20) (by omega) (by omega) (by rw [if_neg (by omega)]; rfl) rfl rfl
  rw [byts_sub] at H20
  have hc24 : (c = 24) = False := by simp; omega
  have H24 := h.cut2 24 1024 (some ⟨b, o + 24, none⟩) 1000 (c - 24) (by omega) (by omega) (by rw [if_neg (by omega)]; rfl) rfl rfl
  have er : (List.take 1024 (byts l)).drop 24 = byts (l.drop 24) := by rw [List.take_of_length_le (by rw [byts_length, HL.out]; omega)]; simp [byts]
  rw [er] at H24
  clear er
  go_enter Tryd.func16, Tryd.ntmps16
  go_wp2_with (go_at_call 27; refine (whole_any _ 1 rfl _ _ _ l _ HT.out h).mono ?_; rintro e w1 ⟨rfl, hf⟩; rw [HW.out]; dsimp only)
  have K2 := H2.ext hf
  have K6 := H6.ext hf
  have K8 := H8.ext hf
  have K16 := H16.ext hf
  have K18 := H18.ext hf
  have K20 := H20.ext hf
  have K24 := H24.ext hf
  clear H2 H6 H8 H16 H18 H20 H24
  have hout : Hid (ohErr l = 0 → ∀ x, ohOut l x = x) := fun hx x => by rw [ohOut, if_pos hx]
  generalize hz2 : zeros (sub l 2 6) = z2 at *
  have Z2 := hid hz2
  clear hz2
  generalize hz8 : zeros (sub l 8 12) = z8 at *
  have Z8 := hid hz8
  clear hz8
  generalize hz24 : zeros (l.drop 24) = z24 at *
  have Z24 := hid hz24
  clear hz24
  have n6 : num (sub l 6 8) < 65536 := num_sub_lt l 6
  have n16 : num (sub l 16 18) < 65536 := num_sub_lt l 16
  have n18 : num (sub l 18 20) < 65536 := num_sub_lt l 18
  generalize hL : num (sub l 6 8) = L at *
  have Z6 := hid hL
  clear hL
  by_cases t2 : z2 = false
  case pos =>
    subst t2
    have hx : Hid (ohErr l = 104) := by show _ = _; rw [hb.out]; rw [ohWhy, if_pos (.inl rfl)]
    clear hb
    go_wp2_with (first | (go_at_call 29; first | ((with_reducible refine (zero_any _ _ _ _ _ K2).mono ?_); rintro e w3 ⟨rfl, rfl⟩; rw [Z2.out]; dsimp only) | ((with_reducible refine (zero_any _ _ _ _ _ K8).mono ?_); rintro e w3 ⟨rfl, rfl⟩; rw [Z8.out]; dsimp only) | ((with_reducible refine (zero_any _ _ _ _ _ K24).mono ?_); rintro e w3 ⟨rfl, rfl⟩; rw [Z24.out]; dsimp only)))
    refine bodyPost_ret (results_tmp4 rfl _ _ _) rfl ?_
    exact ⟨bad.out _ hx.out (by omega), hf⟩
  have t2' : z2 = true := by simpa using t2
  subst t2'
  by_cases t8 : z8 = false
  case pos =>
    subst t8
    have hx : Hid (ohErr l = 104) := by show _ = _; rw [hb.out]; rw [ohWhy, if_pos (.inr (.inl rfl))]
    clear hb
    go_wp2_with (first | (go_at_call 29; first | ((with_reducible refine (zero_any _ _ _ _ _ K2).mono ?_); rintro e w3 ⟨rfl, rfl⟩; rw [Z2.out]; dsimp only) | ((with_reducible refine (zero_any _ _ _ _ _ K8).mono ?_); rintro e w3 ⟨rfl, rfl⟩; rw [Z8.out]; dsimp only) | ((with_reducible refine (zero_any _ _ _ _ _ K24).mono ?_); rintro e w3 ⟨rfl, rfl⟩; rw [Z24.out]; dsimp only)))
    refine bodyPost_ret (results_tmp4 rfl _ _ _) rfl ?_
    exact ⟨bad.out _ hx.out (by omega), hf⟩
  have t8' : z8 = true := by simpa using t8
  subst t8'
  by_cases t24 : z24 = false
  case pos =>
    subst t24
    have hx : Hid (ohErr l = 104) := by show _ = _; rw [hb.out]; rw [ohWhy, if_pos (.inr (.inr rfl))]
    clear hb
    go_wp2_with (first | (go_at_call 29; first | ((with_reducible refine (zero_any _ _ _ _ _ K2).mono ?_); rintro e w3 ⟨rfl, rfl⟩; rw [Z2.out]; dsimp only) | ((with_reducible refine (zero_any _ _ _ _ _ K8).mono ?_); rintro e w3 ⟨rfl, rfl⟩; rw [Z8.out]; dsimp only) | ((with_reducible refine (zero_any _ _ _ _ _ K24).mono ?_); rintro e w3 ⟨rfl, rfl⟩; rw [Z24.out]; dsimp only)))
    refine bodyPost_ret (results_tmp4 rfl _ _ _) rfl ?_
    exact ⟨bad.out _ hx.out (by omega), hf⟩
  have t24' : z24 = true := by simpa using t24
  subst t24'
  by_cases t6 : L = 8
  case neg =>
    have t6' : ((L : Int) != 8) = true := by simp; omega
    have hx : Hid (ohErr l = 12) := by show _ = _; rw [hb.out]; rw [ohWhy, if_neg (by simp), if_pos t6]
    clear hb
    go_wp2_with (first | (go_at_call 29; first | ((with_reducible refine (zero_any _ _ _ _ _ K2).mono ?_); rintro e w3 ⟨rfl, rfl⟩; rw [Z2.out]; dsimp only) | ((with_reducible refine (zero_any _ _ _ _ _ K8).mono ?_); rintro e w3 ⟨rfl, rfl⟩; rw [Z8.out]; dsimp only) | ((with_reducible refine (zero_any _ _ _ _ _ K24).mono ?_); rintro e w3 ⟨rfl, rfl⟩; rw [Z24.out]; dsimp only)) | (go_at_call 28; ((with_reducible refine (number_any _ _ _ _ _ K6 (by omega)).mono ?_); rintro e w3 ⟨rfl, rfl⟩; rw [Z6.out]; dsimp only)))
    refine bodyPost_ret (results_tmp4 rfl _ _ _) rfl ?_
    exact ⟨bad.out _ hx.out (by omega), hf⟩
  subst t6
  go_wp2_with (first | (go_at_call 29; first | ((with_reducible refine (zero_any _ _ _ _ _ K2).mono ?_); rintro e w3 ⟨rfl, rfl⟩; rw [Z2.out]; dsimp only) | ((with_reducible refine (zero_any _ _ _ _ _ K8).mono ?_); rintro e w3 ⟨rfl, rfl⟩; rw [Z8.out]; dsimp only) | ((with_reducible refine (zero_any _ _ _ _ _ K24).mono ?_); rintro e w3 ⟨rfl, rfl⟩; rw [Z24.out]; dsimp only)) | (go_at_call 28; ((with_reducible refine (number_any _ _ _ _ _ K6 (by omega)).mono ?_); rintro e w3 ⟨rfl, rfl⟩; rw [Z6.out]; dsimp only)))
  go_quiet ((go_at_call 28; first | exact number_left _ _ _ _ _ _ K16 (by omega) | exact number_left _ _ _ _ _ _ K18 (by omega) | exact number_left _ _ _ _ _ _ K20 (by omega)))
  have hq : Fr w.heap.size [] w (w1.drewN nq) := (by repeat (first | exact Fr.refl _ _ _ | assumption | apply Fr.drew | (refine Fr.drewN ?_ _) | (refine Fr.alloc ?_ (by first | omega | (simp; done) | (simp; omega)) _) | (refine Fr.setCell ?_ (by first | (left; simp; done) | (right; simp; done) | (right; simp; omega)) _)))
  generalize hw2 : w1.drewN nq = w2 at *
  clear hw2
  by_cases t9 : mayB (num (sub l 16 18)) (num (sub l 18 20)) (num (sub l 20 24)) = true
  case pos =>
    have hx : Hid (ohErr l = 0) := by show _ = _; rw [hb.out, ohWhy, if_neg (by simp), if_neg (by omega), if_pos t9]
    clear hb
    have T9 := hid t9
    clear t9
    go_wp2_with (go_at_call 30; refine (may_any _ _ _ _).mono ?_; rintro e w' ⟨rfl, rfl⟩; rw [T9.out]; dsimp only)
    refine bodyPost_ret (results_tmp4 rfl _ _ _) rfl ?_
    refine ⟨?_, hq⟩
    rw [hout.out hx.out, hout.out hx.out, hout.out hx.out, hx.out]
    rfl
  have t9' : mayB (num (sub l 16 18)) (num (sub l 18 20)) (num (sub l 20 24)) = false := by simpa using t9
  have hx : Hid (ohErr l = 4) := by show _ = _; rw [hb.out, ohWhy, if_neg (by simp), if_neg (by omega), if_neg t9]
  clear hb
  have T9 := hid t9'
  clear t9 t9'
  go_wp2_with (go_at_call 30; refine (may_any _ _ _ _).mono ?_; rintro e w' ⟨rfl, rfl⟩; rw [T9.out]; dsimp only)
  refine bodyPost_ret (results_tmp4 rfl _ _ _) rfl ?_
  exact ⟨bad.out _ hx.out (by omega), hq⟩
end Go.Proofs.YtipmfbpomhcfcaaDoor
