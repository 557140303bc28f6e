/- The walk of the law PageBack: whatever the number, the count, the content and the other number, it says true and turns nothing old. -/
import Derived.Test.YtipmfbpomhcfcaaDoorPgLaw
namespace Go.Proofs.YtipmfbpomhcfcaaDoor
open Go Go.RowKit Go.Le

set_option maxRecDepth 100000 in
set_option maxHeartbeats 4000000 in
theorem PageBack_walk (number count other : Int) (a : Option Addr) (m c : Nat) (l : List UInt8) (w : World) (ht : Tabled w) (h : Sl w a m c (byts l)) (n2 : -9223372036854775808 ≤ number) (n3 : number ≤ 9223372036854775807) (c2 : -9223372036854775808 ≤ count) (c3 : count ≤ 9223372036854775807) (o2 : -9223372036854775808 ≤ other) (o3 : other ≤ 9223372036854775807) :
    Calls Tryd.prog 5 #[.int .i64 number, .int .i64 count, .slice a m c, .int .i64 other] w fun e w' => e = .returned (.bool true) ∧ Fr w.heap.size [] w w' := by
  have hle := h.le
  have hcap := h.cap
  have hlen := h.len
  rw [byts_length] at hlen
  have HLEN := hid hlen
  have HT := hid ht
  have H := hid h
  -- the page, and what stands in it
  have hcl := cont_length l
  have hN : ((1 + number % 249).toNat : Int) = (1 + number % 249) := by omega
  have HC : Hid (((1 + count % 65535).toNat : Int) = (1 + count % 65535)) := by show _ = _; omega
  have PE : Hid (∀ asked : Int, opErr asked (right number count l) = if (1 + number % 249) = asked then 0 else 102) := by
    intro asked; rw [right, made_open _ _ _ (by omega) (by omega) hcl, hN]
  have PC : Hid (opCount (1 + number % 249) (right number count l) = (1 + count % 65535).toNat) := by
    show _ = _
    rw [right]; have := made_count (1 + number % 249).toNat (1 + count % 65535).toNat (cont l) (by omega) (by omega) hcl; rwa [hN] at this
  have PB : Hid (opCont (1 + number % 249) (right number count l) = cont l) := by
    show _ = _
    rw [right]; have := made_cont (1 + number % 249).toNat (1 + count % 65535).toNat (cont l) (by omega) (by omega) hcl; rwa [hN] at this
  have PH : Hid (ohErr (right number count l) = 103) := made_noHead _ _ _ hcl.2
  -- the store's first page
  have hu := Int.emod_nonneg number (show (1 + other % 250) ≠ 0 by omega)
  have hu2 := Int.emod_lt_of_pos number (show 0 < (1 + other % 250) by omega)
  have hr := Int.emod_nonneg count (show 65535 * (number % (1 + other % 250)) + 1 ≠ 0 by omega)
  have hr2 := Int.emod_lt_of_pos count (show 0 < 65535 * (number % (1 + other % 250)) + 1 by omega)
  have hm : mayB (1 + other % 250) (number % (1 + other % 250)) (count % (65535 * (number % (1 + other % 250)) + 1)) = true := by simp [mayB]; omega
  have hd : hdPage (1 + other % 250) (number % (1 + other % 250)) (count % (65535 * (number % (1 + other % 250)) + 1)) = pgMade 1 0 0 (hdBytes (1 + other % 250).toNat (number % (1 + other % 250)).toNat (count % (65535 * (number % (1 + other % 250)) + 1)).toNat) := by rw [hdPage, if_pos hm]
  have tp : (((1 + other % 250).toNat : Nat) : Int) = (1 + other % 250) := Int.toNat_of_nonneg (by omega)
  have tu : (((number % (1 + other % 250)).toNat : Nat) : Int) = (number % (1 + other % 250)) := Int.toNat_of_nonneg hu
  have tr : (((count % (65535 * (number % (1 + other % 250)) + 1)).toNat : Nat) : Int) = (count % (65535 * (number % (1 + other % 250)) + 1)) := Int.toNat_of_nonneg hr
  have hm' : mayB (1 + other % 250).toNat (number % (1 + other % 250)).toNat (count % (65535 * (number % (1 + other % 250)) + 1)).toNat = true := by rw [tp, tu, tr]; exact hm
  obtain ⟨q0, q1, q2, q3⟩ := head_open (1 + other % 250).toNat (number % (1 + other % 250)).toNat (count % (65535 * (number % (1 + other % 250)) + 1)).toNat hm'
  have Q4 : Hid (opErr 0 (hdPage (1 + other % 250) (number % (1 + other % 250)) (count % (65535 * (number % (1 + other % 250)) + 1))) = 103) := by show _ = _; rw [hd]; exact head_noPage _ _ _ _ (by simp [hdBytes, be2, be4])
  have Q5 : Hid ((hdPage (1 + other % 250) (number % (1 + other % 250)) (count % (65535 * (number % (1 + other % 250)) + 1))).length = 1024) := by show _ = _; rw [hd]; exact pgMade_length _ _ _ _ (by simp [hdBytes, be2, be4])
  rw [← hd] at q0 q1 q2 q3
  have QA : Hid (((ohOut (hdPage (1 + other % 250) (number % (1 + other % 250)) (count % (65535 * (number % (1 + other % 250)) + 1))) (num (sub (hdPage (1 + other % 250) (number % (1 + other % 250)) (count % (65535 * (number % (1 + other % 250)) + 1))) 16 18)) : Nat) : Int) = (1 + other % 250)) := by show _ = _; rw [ohOut, q0, if_pos rfl, q1, tp]
  have QB : Hid (((ohOut (hdPage (1 + other % 250) (number % (1 + other % 250)) (count % (65535 * (number % (1 + other % 250)) + 1))) (num (sub (hdPage (1 + other % 250) (number % (1 + other % 250)) (count % (65535 * (number % (1 + other % 250)) + 1))) 18 20)) : Nat) : Int) = (number % (1 + other % 250))) := by show _ = _; rw [ohOut, q0, if_pos rfl, q2, tu]
  have QC : Hid (((ohOut (hdPage (1 + other % 250) (number % (1 + other % 250)) (count % (65535 * (number % (1 + other % 250)) + 1))) (num (sub (hdPage (1 + other % 250) (number % (1 + other % 250)) (count % (65535 * (number % (1 + other % 250)) + 1))) 20 24)) : Nat) : Int) = (count % (65535 * (number % (1 + other % 250)) + 1))) := by show _ = _; rw [ohOut, q0, if_pos rfl, q3, tr]
  have Q0 := hid q0
  have HM := hid hm
  have HCL := hid hcl
  clear hd hm hm' q0 q1 q2 q3 tp tu tr hN hcl ht hlen h
  go_enter Tryd.func5, Tryd.ntmps5
  go_wp2_with (first | (go_at_call 15; refine (lawMade_any _ _ _ _ _ l _ HT.out H.out n2 n3 c2 c3).mono ?_; rintro e w1 ⟨a1, c1, rfl, how1, hf1⟩) | (go_at_call 9; refine (rest_any _ _ _ (by omega) (by omega) (by omega) (by omega)).mono ?_; rintro e w' ⟨rfl, rfl⟩))
  have HT1 := hid (HT.out.ext hf1)
  have S1 := hid how1.sl
  refine (Open_any (1 + number % 249) _ _ _ (right number count l) _ HT1.out S1.out).mono ?_
  rintro e w2 ⟨a2, k2, c2', rfl, how2, hf2⟩
  rw [PC.out, PE.out, if_pos rfl, HC.out]
  rw [PB.out] at how2
  have hk2 := how2.sl.len
  rw [byts_length] at hk2
  have hk2' : 1 ≤ k2 := by have := HCL.out.1; omega
  clear hk2
  have hf2' : Fr w.heap.size [] w w2 := Fr.call' (k := hf2) (h := (by repeat (first | exact Fr.refl _ _ _ | assumption | apply Fr.drew | (refine Fr.drewN ?_ _) | (refine Fr.alloc ?_ (by first | omega | (simp; done) | (simp; omega)) _) | (refine Fr.setCell ?_ (by first | (left; simp; done) | (right; simp; done) | (right; simp; omega)) _)))) (hS := by simp <;> omega)
  have HT2 := hid (HT.out.ext hf2')
  have S2 := hid (S1.out.ext hf2)
  have C2 := hid how2.sl
  have A2 := hid (H.out.ext hf2')
  dsimp only
  have hsame : (0 < m ∧ m ≤ 1008) → (cont l == l) = true := fun hh => by rw [cont_same l (by have := HLEN.out; omega) (by have := HLEN.out; omega)]; simp
  have ways : (¬ (0 : Int) < (m : Int)) ∨ ((0 : Int) < (m : Int) ∧ ¬ ((m : Int) ≤ 1008)) ∨ ((0 : Int) < (m : Int) ∧ (m : Int) ≤ 1008 ∧ (cont l == l) = true) := by
    by_cases e0 : 0 < m
    · by_cases e1 : m ≤ 1008
      · exact .inr (.inr ⟨by omega, by omega, hsame ⟨e0, e1⟩⟩)
      · exact .inr (.inl ⟨by omega, by omega⟩)
    · exact .inl (by omega)
  clear hsame
  have tn : ((1 + count % 65535) != (1 + count % 65535)) = false := by simp
  rcases ways with e0 | ⟨e0, e1⟩ | ⟨e0, e1, e2⟩
  all_goals
    go_wp2_with (first | (go_at_call 14; refine (Eq_any _ _ _ _ _ _ (cont l) l _ C2.out A2.out).mono ?_; rintro e w' ⟨rfl, rfl⟩) | (go_at_call 9; refine (rest_any _ _ _ (by omega) (by omega) (by omega) (by omega)).mono ?_; rintro e w' ⟨rfl, rfl⟩))
    clear tn C2 A2
    refine (Open_any other _ _ _ (right number count l) _ HT2.out S2.out).mono ?_
    rintro e w3 ⟨a3, k3, c3', rfl, how3, hf3⟩
    have hf3' : Fr w.heap.size [] w w3 := Fr.call' (k := hf3) (h := (by repeat (first | exact Fr.refl _ _ _ | assumption | apply Fr.drew | (refine Fr.drewN ?_ _) | (refine Fr.alloc ?_ (by first | omega | (simp; done) | (simp; omega)) _) | (refine Fr.setCell ?_ (by first | (left; simp; done) | (right; simp; done) | (right; simp; omega)) _)))) (hS := by simp <;> omega)
    have HT3 := hid (HT.out.ext hf3')
    have S3 := hid (S2.out.ext hf3)
    rw [PE.out]
    generalize opCount other (right number count l) = x3
    have ho : (((1 + number % 249) = other) ∧ (other == (1 + number % 249)) = true ∧ (other != (1 + number % 249)) = false) ∨ ((¬ (1 + number % 249) = other) ∧ (other == (1 + number % 249)) = false ∧ (other != (1 + number % 249)) = true) := by
      by_cases ho : (1 + number % 249) = other
      · exact .inl ⟨ho, by simp [ho], by simp [ho]⟩
      · exact .inr ⟨ho, by simp; omega, by simp; omega⟩
    rcases ho with ⟨ho, hb1, hb2⟩ | ⟨ho, hb1, hb2⟩
    all_goals
      first | rw [if_pos ho] | rw [if_neg ho]
      clear ho
      dsimp only
      go_wp2_with fail
      refine (OpenHead_any _ _ _ (right number count l) _ HT3.out S3.out).mono ?_
      rintro e w4 ⟨rfl, hf4⟩
      have hf4' : Fr w.heap.size [] w w4 := Fr.call' (k := hf4) (h := (by repeat (first | exact Fr.refl _ _ _ | assumption | apply Fr.drew | (refine Fr.drewN ?_ _) | (refine Fr.alloc ?_ (by first | omega | (simp; done) | (simp; omega)) _) | (refine Fr.setCell ?_ (by first | (left; simp; done) | (right; simp; done) | (right; simp; omega)) _)))) (hS := by simp <;> omega)
      have HT4 := hid (HT.out.ext hf4')
      rw [PH.out]
      generalize ohOut (right number count l) (num (sub (right number count l) 16 18)) = y1
      generalize ohOut (right number count l) (num (sub (right number count l) 18 20)) = y2
      generalize ohOut (right number count l) (num (sub (right number count l) 20 24)) = y3
      dsimp only
      go_wp2_with (go_at_call 9; refine (rest_any _ _ _ (by omega) (by omega) (by omega) (by omega)).mono ?_; rintro e w' ⟨rfl, rfl⟩)
      refine (Head_any _ _ _ _ HT4.out).mono ?_
      rintro e w5 ⟨a5, k5, c5, rfl, how5, hf5⟩
      rw [HM.out, if_pos rfl]
      have hk5 := how5.sl.len
      rw [byts_length, Q5.out] at hk5
      subst hk5
      have hf5' : Fr w.heap.size [] w w5 := Fr.call' (k := hf5) (h := (by repeat (first | exact Fr.refl _ _ _ | assumption | apply Fr.drew | (refine Fr.drewN ?_ _) | (refine Fr.alloc ?_ (by first | omega | (simp; done) | (simp; omega)) _) | (refine Fr.setCell ?_ (by first | (left; simp; done) | (right; simp; done) | (right; simp; omega)) _)))) (hS := by simp <;> omega)
      have HT5 := hid (HT.out.ext hf5')
      have S5 := hid how5.sl
      dsimp only
      go_wp2_with fail
      refine (OpenHead_any _ _ _ (hdPage (1 + other % 250) (number % (1 + other % 250)) (count % (65535 * (number % (1 + other % 250)) + 1))) _ HT5.out S5.out).mono ?_
      rintro e w6 ⟨rfl, hf6⟩
      have hf6' : Fr w.heap.size [] w w6 := Fr.call' (k := hf6) (h := (by repeat (first | exact Fr.refl _ _ _ | assumption | apply Fr.drew | (refine Fr.drewN ?_ _) | (refine Fr.alloc ?_ (by first | omega | (simp; done) | (simp; omega)) _) | (refine Fr.setCell ?_ (by first | (left; simp; done) | (right; simp; done) | (right; simp; omega)) _)))) (hS := by simp <;> omega)
      have HT6 := hid (HT.out.ext hf6')
      have S6 := hid (S5.out.ext hf6)
      rw [QA.out, QB.out, QC.out, Q0.out]
      dsimp only
      go_wp2_with fail
      refine (Open_any 0 _ _ _ (hdPage (1 + other % 250) (number % (1 + other % 250)) (count % (65535 * (number % (1 + other % 250)) + 1))) _ HT6.out S6.out).mono ?_
      rintro e w7 ⟨a7, k7, c7, rfl, how7, hf7⟩
      have hf7' : Fr w.heap.size [] w w7 := Fr.call' (k := hf7) (h := (by repeat (first | exact Fr.refl _ _ _ | assumption | apply Fr.drew | (refine Fr.drewN ?_ _) | (refine Fr.alloc ?_ (by first | omega | (simp; done) | (simp; omega)) _) | (refine Fr.setCell ?_ (by first | (left; simp; done) | (right; simp; done) | (right; simp; omega)) _)))) (hS := by simp <;> omega)
      rw [Q4.out]
      generalize opCount 0 (hdPage (1 + other % 250) (number % (1 + other % 250)) (count % (65535 * (number % (1 + other % 250)) + 1))) = x7
      dsimp only
      go_wp2
      go_ret
      exact ⟨rfl, hf7'⟩
end Go.Proofs.YtipmfbpomhcfcaaDoor
