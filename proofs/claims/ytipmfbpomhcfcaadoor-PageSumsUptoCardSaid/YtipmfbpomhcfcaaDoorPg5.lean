/- The walks of page.whole, page.may, page.four, page.Head. -/
import Derived.Test.YtipmfbpomhcfcaaDoorPg4
set_option linter.unusedVariables false
set_option linter.unusedSimpArgs false
namespace Go.Le
open Go
/-- may a store's head say so? -/
def mayB (pages used records : Int) : Bool := decide (1 ≤ pages ∧ pages ≤ 250 ∧ 0 ≤ used ∧ used ≤ pages - 1 ∧ 0 ≤ records ∧ records ≤ 65535 * used)
def hdBytes (pages used records : Nat) : List UInt8 := be2 pages ++ be2 used ++ be4 records
def hdPage (pages used records : Int) : List UInt8 := if mayB pages used records = true then pgMade 1 0 0 (hdBytes pages.toNat used.toNat records.toNat) else []
end Go.Le
namespace Go.Proofs.YtipmfbpomhcfcaaDoor
open Go Go.RowKit Go.Le

set_option maxHeartbeats 1000000 in
theorem whole_any (kv : Int) (kind : UInt8) (hkv : kv = (kind.toNat : Int)) (a : Option Addr) (m c : Nat) (l : List UInt8) (w : World) (ht : Tabled w) (h : Sl w a m c (byts l)) :
    Calls Tryd.prog 27 #[.slice a m c, .int .u8 kv] w fun e w' => e = .returned (.int .i64 (whErr kind l)) ∧ Fr w.heap.size [] w w' := by
  have hle := h.le
  have hcap := h.cap
  have hlen := h.len
  rw [byts_length] at hlen
  by_cases h1 : m = 1024
  case neg =>
    have hb : Hid (whErr kind l = 12) := by show _ = _; rw [whErr, if_pos (by omega)]
    have h1' : ((m : Int) != 1024) = true := by simp; omega
    clear hlen
    go_enter Tryd.func27, Tryd.ntmps27
    go_wp2
    go_ret
    exact ⟨by rw [hb.out]; rfl, Fr.refl _ _ _⟩
  subst h1
  obtain ⟨b, o, rfl⟩ := h.addr (by omega)
  have c0 := h.at 0 (by omega)
  have c1 := h.at 1 (by omega)
  simp only [byts, List.getElem_map, byt, Nat.add_zero] at c0 c1
  have g0 : l.getD 0 0 = l[0]'(by omega) := by simp [List.getD, List.getElem?_eq_getElem (show 0 < l.length by omega)]
  have g1 : l.getD 1 0 = l[1]'(by omega) := by simp [List.getD, List.getElem?_eq_getElem (show 1 < l.length by omega)]
  generalize (l[0]'(by omega)) = x0 at *
  generalize (l[1]'(by omega)) = x1 at *
  have hx0 := x0.toNat_lt
  have hx1 := x1.toNat_lt
  by_cases h2 : x0 = 0xd6
  case neg =>
    have hb : Hid (whErr kind l = 100) := by show _ = _; rw [whErr, if_neg (by omega), if_pos (by rw [g0]; exact h2)]
    have h2' : ((x0.toNat : Int) != 214) = true := by
      simp; intro hh; apply h2; apply UInt8.toNat_inj.1; simp; omega
    clear hlen g0 g1
    go_enter Tryd.func27, Tryd.ntmps27
    go_wp2
    go_ret
    exact ⟨by rw [hb.out]; rfl, Fr.refl _ _ _⟩
  subst h2
  have c0' : w.cell? ⟨b, o, none⟩ = some (.int .u8 214) := c0
  clear c0
  by_cases h3 : x1 = kind
  case neg =>
    have hb : Hid (whErr kind l = 103) := by show _ = _; rw [whErr, if_neg (by omega), if_neg (by rw [g0]; simp), if_pos (by rw [g1]; exact h3)]
    have h3' : ((x1.toNat : Int) != kv) = true := by
      rw [hkv]; simp; intro hh; apply h3; apply UInt8.toNat_inj.1; omega
    clear hlen g0 g1 hkv
    go_enter Tryd.func27, Tryd.ntmps27
    go_wp2
    go_ret
    exact ⟨by rw [hb.out]; rfl, Fr.refl _ _ _⟩
  subst h3
  have H2 := h.cut 12 16 (by omega) (by omega) (some ⟨b, o + 12, none⟩) (by rw [if_neg (by omega)]; rfl)
  have e2 : ((byts l).take 16).drop 12 = byts ((l.drop 12).take 4) := by simp [byts, List.drop_take]
  rw [e2] at H2
  have h3' : ((x1.toNat : Int) != kv) = false := by rw [hkv]; simp
  have hfin : Hid (whErr x1 l = if pgSum l == (l.drop 12).take 4 then 0 else 101) := by
    show _ = _; rw [whErr, if_neg (by omega), if_neg (by rw [g0]; simp), if_neg (by rw [g1]; simp)]
    by_cases hq : pgSum l = (l.drop 12).take 4
    · simp [hq]
    · simp [hq]
  have hc16 : (c = 12) = False := by simp; omega
  have hc17 : (16 : Int) ≤ c := by omega
  have hpl : (pgSum l).length = 4 := rfl
  clear hlen g0 g1 hkv e2
  by_cases h4 : (pgSum l == (l.drop 12).take 4) = true
  all_goals
    go_enter Tryd.func27, Tryd.ntmps27
    go_wp2
    go_region_held3 (fun _ => True) (trivial) (first | (go_at_call 39; refine (psum_any _ _ _ l _ (ht.ext (by repeat (first | exact Fr.refl _ _ _ | assumption | apply Fr.drew | (refine Fr.drewN ?_ _) | (refine Fr.alloc ?_ (by first | omega | (simp; done) | (simp; omega)) _) | (refine Fr.setCell ?_ (by first | (left; simp; done) | (right; simp; done) | (right; simp; omega)) _)))) (h.ext (by repeat (first | exact Fr.refl _ _ _ | assumption | apply Fr.drew | (refine Fr.drewN ?_ _) | (refine Fr.alloc ?_ (by first | omega | (simp; done) | (simp; omega)) _) | (refine Fr.setCell ?_ (by first | (left; simp; done) | (right; simp; done) | (right; simp; omega)) _))))).mono ?_; rintro e e' ⟨g, rfl, hg1, hg2, hg3⟩) | (go_at_call 40; have q1 := hg2.sl_all 4 (by rw [byts_length]; rfl) (by omega); have hf : Fr w.heap.size [] w e' := Fr.call' (k := hg3) (h := (by repeat (first | exact Fr.refl _ _ _ | assumption | apply Fr.drew | (refine Fr.drewN ?_ _) | (refine Fr.alloc ?_ (by first | omega | (simp; done) | (simp; omega)) _) | (refine Fr.setCell ?_ (by first | (left; simp; done) | (right; simp; done) | (right; simp; omega)) _)))) (hS := by simp <;> omega); have q2 := H2.ext hf; refine (bytesEqual_any _ _ _ _ _ _ _ _ _ q1 q2).mono ?_; rintro e e'' ⟨rfl, rfl⟩))
    go_wp2
    go_ret
    exact ⟨by rw [hfin.out]; simp [h4], hf⟩

set_option maxHeartbeats 1000000 in
theorem may_any (pages used records : Int) (w : World) : Calls Tryd.prog 30 #[.int .i64 pages, .int .i64 used, .int .i64 records] w fun e w' => e = .returned (.bool (mayB pages used records)) ∧ w = w' := by
  by_cases h1 : 1 ≤ pages
  case neg =>
    have hb : Hid (mayB pages used records = false) := by show _ = _; simp [mayB, h1]
    go_enter Tryd.func30, Tryd.ntmps30
    go_wp2
    go_ret
    exact ⟨by rw [hb.out]; rfl, rfl⟩
  by_cases h2 : pages ≤ 250
  case neg =>
    have hb : Hid (mayB pages used records = false) := by show _ = _; simp [mayB, h2]
    go_enter Tryd.func30, Tryd.ntmps30
    go_wp2
    go_ret
    exact ⟨by rw [hb.out]; rfl, rfl⟩
  by_cases h3 : 0 ≤ used
  case neg =>
    have hb : Hid (mayB pages used records = false) := by show _ = _; simp [mayB, h3]
    go_enter Tryd.func30, Tryd.ntmps30
    go_wp2
    go_ret
    exact ⟨by rw [hb.out]; rfl, rfl⟩
  by_cases h4 : used ≤ pages - 1
  case neg =>
    have hb : Hid (mayB pages used records = false) := by show _ = _; simp [mayB, h4]
    go_enter Tryd.func30, Tryd.ntmps30
    go_wp2
    go_ret
    exact ⟨by rw [hb.out]; rfl, rfl⟩
  by_cases h5 : 0 ≤ records
  case neg =>
    have hb : Hid (mayB pages used records = false) := by show _ = _; simp [mayB, h5]
    go_enter Tryd.func30, Tryd.ntmps30
    go_wp2
    go_ret
    exact ⟨by rw [hb.out]; rfl, rfl⟩
  have hb : Hid (mayB pages used records = decide (records ≤ 65535 * used)) := by show _ = _; simp [mayB, h1, h2, h3, h4, h5]
  go_enter Tryd.func30, Tryd.ntmps30
  go_wp2
  go_ret
  exact ⟨by rw [hb.out]; rfl, rfl⟩

set_option maxHeartbeats 1000000 in
theorem four_any (n : Int) (w : World) (h0 : 0 ≤ n) (h1 : n ≤ 4294967295) : Calls Tryd.prog 32 #[.int .i64 n] w fun e w' =>
    ∃ a c, e = .returned (.slice a 4 c) ∧ Ow w' w.heap.size 5 a 4 c (byts (be4 n.toNat)) ∧ Fr w.heap.size [] w w' := by
  obtain ⟨i, hi, hz, hsz, hby⟩ := info_parts infoU8
  have hq : Hid (be2 (n / 65536).toNat ++ be2 n.toNat = be4 n.toNat) := by
    show _ = _
    rw [be4]
    congr 2
    omega
  have hd : 0 ≤ n / 65536 ∧ n / 65536 ≤ 4294967295 := by omega
  obtain ⟨hd0, hd1⟩ := hd
  have HI := hid hi
  have HZ := hid hz
  have HS := hid hsz
  have HB := hid hby
  clear hi hz hsz hby
  go_enter Tryd.func32, Tryd.ntmps32
  go_wp2_with (first | (go_at_call 31; refine (two_any _ _ (by omega) (by omega)).mono ?_; rintro e w' ⟨rfl, rfl⟩) | ((with_reducible show wpList _ _ _ (Oper.mk (some 8) _ _ _ _ _ :: _) _ _); refine wpList_app (by rfl) (.tmp 5) (.tmp 7) 22 (by rfl) w.heap.size 5 Tryd.underlying22 HI.out HZ.out HS.out HB.out (by rfl) (by rfl) (by rfl) (Ow.of_blk (cs := byts (be2 (n / 65536).toNat)) (by repeat (first | assumption | apply Blk.drew | exact Blk.new' _ _ (by first | rfl | (simp; done) | (simp; omega)) | apply Blk.alloc)) (by omega) 2 rfl (by omega)) (Blk.sl_all (cs := byts (be2 n.toNat)) (by repeat (first | assumption | apply Blk.drew | exact Blk.new' _ _ (by first | rfl | (simp; done) | (simp; omega)) | apply Blk.alloc)) 2 rfl (by omega)) (byts_oneCell _) (by simp [maxLen]) (by omega) (by simp; omega) ?_))
  intro a' c' w3 how hfr hn hl
  go_wp2
  go_ret
  rw [← byts_append, hq.out] at how
  have hf : Fr w.heap.size [] w w3 := Fr.call (k := hfr) (h := (by repeat (first | exact Fr.refl _ _ _ | assumption | apply Fr.drew | (refine Fr.drewN ?_ _) | (refine Fr.alloc ?_ (by first | omega | (simp; done) | (simp; omega)) _) | (refine Fr.setCell ?_ (by first | (left; simp; done) | (right; simp; done) | (right; simp; omega)) _)))) (hB := by first | omega | (simp; done) | (simp; omega)) (hS := by simp [blk] <;> omega)
  exact ⟨a', c', rfl, how, hf⟩


set_option maxHeartbeats 1000000 in
theorem Head_any (pages used records : Int) (w : World) (ht : Tabled w) :
    Calls Tryd.prog 17 #[.int .i64 pages, .int .i64 used, .int .i64 records] w fun e w' => ∃ a' n' c', e = .returned (.tuple #[.slice a' n' c', .int .i64 (if mayB pages used records = true then 0 else 4)]) ∧ Ow w' w.heap.size 5 a' n' c' (byts (hdPage pages used records)) ∧ Fr w.heap.size [] w w' := by
  by_cases h1 : mayB pages used records = true
  case neg =>
    have hb : Hid (hdPage pages used records = []) := by show _ = _; rw [hdPage, if_neg h1]
    have h1' : mayB pages used records = false := by simpa using h1
    go_enter Tryd.func17, Tryd.ntmps17
    go_wp2_with (go_at_call 30; refine (may_any _ _ _ _).mono ?_; rintro e w' ⟨rfl, rfl⟩)
    go_ret2
    refine ⟨none, 0, 0, by simp, ?_, Fr.refl _ _ _⟩
    rw [hb.out]
    exact Ow.nil _ _ _
  have hm : 1 ≤ pages ∧ pages ≤ 250 ∧ 0 ≤ used ∧ used ≤ pages - 1 ∧ 0 ≤ records ∧ records ≤ 65535 * used := by simpa [mayB] using h1
  obtain ⟨m1, m2, m3, m4, m5, m6⟩ := hm
  have hb : Hid (hdPage pages used records = pgMade 1 0 0 (hdBytes pages.toNat used.toNat records.toNat)) := by show _ = _; rw [hdPage, if_pos h1]
  have hp : Hid ((pgMade 1 0 0 (hdBytes pages.toNat used.toNat records.toNat)).length = 1024) := pgMade_length _ _ _ _ (by simp [hdBytes, be2, be4])
  obtain ⟨i, hi, hz, hsz, hby⟩ := info_parts infoU8
  have HI := hid hi
  have HZ := hid hz
  have HS := hid hsz
  have HB := hid hby
  have HT := hid ht
  clear hi hz hsz hby ht
  go_enter Tryd.func17, Tryd.ntmps17
  go_wp2_with (first | (go_at_call 30; refine (may_any _ _ _ _).mono ?_; rintro e w' ⟨rfl, rfl⟩) | (go_at_call 31; refine (two_any _ _ (by omega) (by omega)).mono ?_; rintro e w' ⟨rfl, rfl⟩) | ((with_reducible show wpList _ _ _ (Oper.mk (some 17) _ _ _ _ _ :: _) _ _); refine wpList_app (by rfl) (.tmp 14) (.tmp 16) 22 (by rfl) w.heap.size 5 Tryd.underlying22 HI.out HZ.out HS.out HB.out (by rfl) (by rfl) (by rfl) (Ow.of_blk (cs := byts (be2 pages.toNat)) (by repeat (first | assumption | apply Blk.drew | exact Blk.new' _ _ (by first | rfl | (simp; done) | (simp; omega)) | apply Blk.alloc)) (by omega) 2 rfl (by omega)) (Blk.sl_all (cs := byts (be2 used.toNat)) (by repeat (first | assumption | apply Blk.drew | exact Blk.new' _ _ (by first | rfl | (simp; done) | (simp; omega)) | apply Blk.alloc)) 2 rfl (by omega)) (byts_oneCell _) (by simp [maxLen]) (by omega) (by simp; omega) ?_))
  intro a1 c1 w1 how hfr hn hl
  rw [← byts_append] at how
  have hf : Fr w.heap.size [] w w1 := Fr.call (k := hfr) (h := (by repeat (first | exact Fr.refl _ _ _ | assumption | apply Fr.drew | (refine Fr.drewN ?_ _) | (refine Fr.alloc ?_ (by first | omega | (simp; done) | (simp; omega)) _) | (refine Fr.setCell ?_ (by first | (left; simp; done) | (right; simp; done) | (right; simp; omega)) _)))) (hB := by first | omega | (simp; done) | (simp; omega)) (hS := by simp [blk] <;> omega)
  have hsz1 := hf.size
  clear hfr
  go_wp2_with (first | (go_at_call 32; refine (four_any _ _ (by omega) (by omega)).mono ?_; rintro e w2 ⟨a2, c2, rfl, how2, hf2⟩) | ((with_reducible show wpList _ _ _ (Oper.mk (some 20) _ _ _ _ _ :: _) _ _); refine wpList_app (by rfl) (.tmp 17) (.tmp 19) 22 (by rfl) w.heap.size 5 Tryd.underlying22 HI.out HZ.out HS.out HB.out (by rfl) (by rfl) (by rfl) (how.ext hf2) how2.sl (byts_oneCell _) (by simp [maxLen]) (by omega) (by have := hf2.size; omega) ?_))
  intro a3 c3 w3 how3 hfr hn3 hl3
  rw [← byts_append] at how3
  have hf2' : Fr w.heap.size [] w w2 := Fr.call' (k := hf2) (h := (by repeat (first | exact Fr.refl _ _ _ | assumption | apply Fr.drew | (refine Fr.drewN ?_ _) | (refine Fr.alloc ?_ (by first | omega | (simp; done) | (simp; omega)) _) | (refine Fr.setCell ?_ (by first | (left; simp; done) | (right; simp; done) | (right; simp; omega)) _)))) (hS := by simp <;> omega)
  have hf3 : Fr w.heap.size [] w w3 := Fr.call (k := hfr) (h := hf2') (hB := hf2'.size) (hS := by
    intro x hx
    obtain ⟨p, hp, rfl⟩ := mem_blk.1 hx
    exact .inr (how.lt p hp).2.2.1)
  have ht3 := HT.out.ext hf3
  have hs3 := how3.sl
  clear hfr hn hn3 hl hl3
  go_wp2_with (go_at_call 26; refine (made_any _ 1 rfl _ _ (by omega) (by omega) (by omega) (by omega) _ _ _ _ _ ht3 hs3 (by omega)).mono ?_; rintro e w4 ⟨rfl, hb4, hf4, hs4⟩)
  go_ret2
  have hf5 : Fr w.heap.size [] w w4 := Fr.call' (k := hf4) (h := (by repeat (first | exact Fr.refl _ _ _ | assumption | apply Fr.drew | (refine Fr.drewN ?_ _) | (refine Fr.alloc ?_ (by first | omega | (simp; done) | (simp; omega)) _) | (refine Fr.setCell ?_ (by first | (left; simp; done) | (right; simp; done) | (right; simp; omega)) _)))) (hS := by simp <;> omega)
  refine ⟨some ⟨w3.heap.size, 0, none⟩, 1024, 1024, by simp, ?_, hf5⟩
  rw [hb.out]
  exact Ow.of_blk hb4 hf3.size 1024 (by rw [byts_length]; exact hp.out) (by omega)

end Go.Proofs.YtipmfbpomhcfcaaDoor
