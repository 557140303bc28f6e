/- The walks of Write, Flush (package sectors). -/
import Derived.Test.YtpaebopmppbjbaaSec4
set_option linter.unusedVariables false
set_option linter.unusedSimpArgs false
namespace Go.Le
open Go Go.RowKit
theorem pzCells_snoc (zs : List Pz) (z : Pz) : pzCells (zs ++ [z]) = pzCells zs ++ [.int .i64 (z.1.1 : Int), .slice z.2.1 z.1.2.length z.2.2] := by simp [pzCells]
theorem pzCells_one (zs : List Pz) : ∀ v ∈ pzCells zs, v.oneCell' = true := by
  intro v hv
  simp only [pzCells, List.mem_flatMap] at hv
  obtain ⟨z, _, hv⟩ := hv
  simp only [List.mem_cons, List.not_mem_nil, or_false] at hv
  rcases hv with rfl | rfl <;> rfl
/-- one pending write more -/
theorem Mem.push {wb w : World} {R : HP} {u pt : TypeId} {a' : Option Addr} {c' o j : Nat} {zs : List Pz} {L : List (Nat × List UInt8)} {b : List UInt8} (h : Mem wb w (row pt 2 a' (L.length + 1) c' (pzCells zs ++ [.int .i64 (j : Int), .slice (some ⟨o, 0, none⟩) 512 512]) * (all (zs.map (pzRow u)) * (pts o u (byts b) * R))))
    (hz : zs.map (·.1) = L) (hb : b.length = 512) : Mem wb w (Le.pends u pt a' c' (L ++ [(j, b)]) * R) := by
  refine Mem.pends.2 ⟨zs ++ [((j, b), (some ⟨o, 0, none⟩, 512))], by simp [hz], ?_⟩
  have h1 : Mem wb w (row u 1 (some ⟨o, 0, none⟩) 512 512 (byts b) * (row pt 2 a' (L.length + 1) c' (pzCells zs ++ [.int .i64 (j : Int), .slice (some ⟨o, 0, none⟩) 512 512]) * (all (zs.map (pzRow u)) * R))) :=
    Mem.of_row (rest := []) rfl (by rw [byts_length, hb]) (Nat.le_refl _) (by omega) (by rw [byts_length, hb]; simp) (by rw [List.append_nil]; exact h.p2)
  rw [List.map_append, List.map_cons, List.map_nil, all_snoc, pzCells_snoc]
  simp only [hb, List.length_append, List.length_cons, List.length_nil]
  unfold pzRow
  simp only [hb]
  refine h1.p1.eq ?_
  unfold pzRow
  ac_rfl
theorem asked_zero {D : Dev} {i : Int} (h : D.asked i = 0) : D.down = false ∧ 0 ≤ i ∧ i < (D.n : Int) := by
  unfold Dev.asked at h
  cases hd : D.down
  · rw [hd] at h
    simp only [Bool.false_eq_true, if_false] at h
    by_cases hx : i < 0 ∨ (D.n : Int) ≤ i
    · rw [if_pos hx] at h; omega
    · exact ⟨rfl, by omega, by omega⟩
  · rw [hd] at h; simp at h
theorem Dev.ok.sector {D : Dev} (h : D.ok) {i : Nat} (hi : i < D.n) : i * 512 + 512 ≤ D.img.length := by unfold Dev.n at hi; omega
theorem Dev.push_ok {D : Dev} (h : D.ok) {i : Nat} (hi : i < D.n) {b : List UInt8} (hb : b.length = 512) : ({ D with pend := D.pend ++ [(i, b)] } : Dev).ok :=
  ⟨h.img, fun p hp => by
    rcases List.mem_append.1 hp with hp | hp
    · exact h.pend p hp
    · simp only [List.mem_singleton] at hp
      subst hp
      exact ⟨h.sector hi, hb⟩, h.armed, h.torn, h.off, h.keep, h.calls⟩
end Go.Le
namespace Go.Proofs.Ytpaebopmppbjbaa
open Go Go.RowKit Go.Le

set_option maxRecDepth 20000 in
set_option maxHeartbeats 1000000 in
theorem Write_any (wb w : World) (R : HP) (g : Nat) (D : Dev) (h : Mem wb w (devAt T8 g D * R)) (hpl : D.pend.length ≤ 1000000000) (i : Int) (i1 : -9223372036854775808 ≤ i) (i2 : i ≤ 9223372036854775807)
    (a : Option Addr) (n c : Nat) (b : List UInt8) (hs : Sl w a n c (byts b)) :
    Calls Try.prog 62 #[.pointer (some ⟨g, 0, none⟩), .int .i64 i, .slice a n c] w fun e w' => e = .returned (.int .i64 (D.write i b).2) ∧ Mem wb w' (devAt T8 g (D.write i b).1 * R) := by
  have HH := hid h
  obtain ⟨hok, ka, kc, h1⟩ := Mem.devAt.1 h
  have HA := hid (asked_any wb w _ g D ka _ kc h1 hok i i1 i2)
  have H1 := hid h1
  have HOK := hid hok
  have HS := hid hs
  have hle := hs.le
  have hcp := hs.cap
  have hln := hs.len
  rw [byts_length] at hln
  have HLN := hid hln
  have HC : Hid (D.write i b = if D.asked i ≠ 0 then (D, D.asked i) else if b.length ≠ 512 then (D, 82) else
    if ({ D with pend := D.pend ++ [(i.toNat, b)] } : Dev).fires then (({ D with pend := D.pend ++ [(i.toNat, b)] } : Dev).count.fall D.loss, 80) else (({ D with pend := D.pend ++ [(i.toNat, b)] } : Dev).count, 0)) := rfl
  clear h h1 hok hs hln
  generalize D.write i b = q at *
  by_cases ha : D.asked i = 0
  · obtain ⟨ad, ai0, ain⟩ := asked_zero ha
    obtain ⟨j, rfl⟩ := Int.eq_ofNat_of_zero_le ai0
    replace ain : j < D.n := by omega
    have HAD := hid ad
    rw [ha] at HA
    simp only [ha, ne_eq, not_true_eq_false, if_false] at HC
    clear ha ad ai0
    by_cases hn : n = 512
    · subst hn
      have hmk := run_make_bytes (P := Try.prog) 37 5 Try.underlying37 u8info .i64 .i64 512 (by omega) (by omega)
      have e5 : Int.toNat 512 = 512 := rfl
      rw [e5] at hmk
      obtain ⟨Z, hZ⟩ : ∃ Z, Z = List.replicate 512 (Value.int .u8 0) := ⟨_, rfl⟩
      rw [← hZ] at hmk
      have hZl : Z.length = 512 := by rw [hZ]; simp
      simp only [HLN.out, ne_eq, not_true_eq_false, if_false] at HC
      have hz := hid (H1.out.alloc Z 5)
      have es : Hid (splice Z 0 ((byts b).take 512) = byts b) := by
        have hb : (byts b).length = 512 := by rw [byts_length, HLN.out]
        show _ = _
        rw [hZ]
        simp [splice, ← hb]
      have HZl := hid hZl
      clear e5 hZ hZl
      obtain ⟨pi, hi, hzz, hsz, hby⟩ := info_parts peInfo
      have JI := hid hi
      have JZ := hid hzz
      have JS := hid hsz
      have JB := hid hby
      clear hi hzz hsz hby
      go_enter Try.func62, Try.ntmps62
      go_wp2_with (first | (go_at_call 65; refine HA.out.mono ?_; rintro e w' ⟨rfl, rfl⟩; dsimp only) | ((with_reducible show wpList _ _ _ (Oper.mk (some 21) _ _ _ _ _ :: _) _ _); refine wpList_copy (by rfl) (.tmp 19) (.tmp 20) 37 37 (by rfl) Try.underlying37 u8size (by rfl) (by rfl) hz.out (by rfl) 0 512 (by rfl) (fun _ => rfl) (by rw [HZl.out]; exact Nat.le_refl _) (HS.out.ext (by repeat (first | exact Fr.refl _ _ _ | assumption | apply Fr.drew | (refine Fr.drewN ?_ _) | (refine Fr.alloc ?_ (by first | omega | (simp; done) | (simp; omega)) _) | (refine Fr.setCell ?_ (by first | (left; simp; done) | (right; simp; done) | (right; simp; omega)) _)))) (byts_oneCell _) ?_))
      intro w2 hm2
      rw [es.out] at hm2
      obtain ⟨ia, ic, pa, pc, hd⟩ := Mem.dev0.1 hm2.p1
      obtain ⟨zs, hz2, hp⟩ := Mem.pends.1 hd.p2
      have HZ := hid hz2
      have c1 := (dev_cells hd).2.1
      have hpc := hp.row_len
      have hq := hid (hp.alloc [.int .i64 (j : Int), .slice (some ⟨w.heap.size, 0, none⟩) 512 512] T8.pe)
      clear hm2 hd hp hz2
      go_wp2_with ((with_reducible show wpList _ _ _ (Oper.mk (some 31) _ _ _ _ _ :: _) _ _); refine wpList_append (by rfl) (.tmp 26) (.tmp 30) 49 (by rfl) Try.underlying49 JI.out JZ.out JS.out JB.out (by rfl) (by omega) (by rfl) (by rfl) hq.out.p1 rfl (by rfl) (news_built hq.out.blk.1) (by intro h; cases h) (by simp; exact ⟨rfl, rfl⟩) (by omega) (by omega) ?_)
      intro a' c' w3 hm3 _ _
      have hm4 := hm3.duo_row.p3
      have x1 := hm4.cell 1
      simp [devCells] at x1
      have y1 := hm4.frozen 1
      have hm5 := hm4.setCell 1 (.slice a' (D.pend.length + 1) c')
      have hm6 := Mem.push (R := pts g T8.dv ((devCells D ia ic pa pc ka D.loss.keep.length kc).set 1 (.slice a' (D.pend.length + 1) c')) * (row T8.u8 1 ia D.img.length ic (byts D.img) * (keepAt T8 (ka, kc) D.loss * R))) (u := T8.u8) (pt := T8.pe) (o := w.heap.size) (j := j) (a' := a') (c' := c') (hm5.p2.right.eq (by simp only [T8]; ac_rfl)) HZ.out HLN.out
      obtain ⟨E, hE⟩ : ∃ E : Dev, E = { D with pend := D.pend ++ [(j, b)] } := ⟨_, rfl⟩
      have hm7 : Mem wb (w3.setCell ⟨g, 1, none⟩ (.slice a' (D.pend.length + 1) c')) (dev0 T8 g E ka D.loss.keep.length kc * (keepAt T8 (ka, kc) D.loss * R)) := by
        refine Mem.dev0.2 ⟨ia, ic, a', c', ?_⟩
        rw [hE]
        simpa [devCells] using hm6.q2
      have hEl : E.loss = D.loss := by rw [hE]
      have hEp : E.pend.length = D.pend.length + 1 := by rw [hE]; simp
      have hEok : E.ok := by rw [hE]; exact Dev.push_ok HOK.out ain HLN.out
      rw [Int.toNat_natCast, ← hE] at HC
      have HM7 := hid hm7
      have HEL := hid hEl
      have HEP := hid hEp
      have HEO := hid hEok
      clear hm3 hm4 hm5 hm6 hm7 hE hEl hEp hEok c1
      go_wp2_with fail
      refine (crashes_any wb _ _ g E ka _ kc HM7.out HEO.out).mono ?_
      rintro e w4 ⟨rfl, hm8⟩
      dsimp only
      obtain ⟨ia2, ic2, pa2, pc2, hd2⟩ := Mem.dev0.1 hm8
      obtain ⟨-, -, -, -, x4, x5, x6, -⟩ := dev_cells hd2
      have hcl : E.count.loss = D.loss := by rw [← HEL.out]; rfl
      rw [hcl] at x5 x6
      have HCL := hid hcl
      have HM8 := hid hm8
      clear hd2 hm8 hcl x1 y1
      generalize hfi : E.fires = fi at *
      cases fi
      · simp only [Bool.false_eq_true, if_false] at HC
        obtain rfl := HC.out
        clear hfi
        go_wp2_with fail
        go_ret
        refine ⟨rfl, Mem.devAt.2 ⟨Dev.count_ok HEO.out, ka, kc, ?_⟩⟩
        have := HM8.out
        simpa [HCL.out] using this
      · simp only [if_true] at HC
        obtain rfl := HC.out
        clear hfi
        go_wp2_with fail
        refine (fall_any wb w4 (keepAt T8 (ka, kc) D.loss * R) g E.count ka _ kc HM8.out (Dev.count_ok HEO.out) (by show E.pend.length ≤ _; rw [HEP.out]; omega) D.loss ka kc (fun w' hw => hw.row_sl) HOK.out.keep HOK.out.torn HOK.out.off).mono ?_
        rintro e w5 ⟨rfl, hm9⟩
        dsimp only
        go_wp2_with fail
        go_ret
        refine ⟨rfl, Mem.devAt.2 ⟨Dev.fall_ok (Dev.count_ok HEO.out) _, ka, kc, ?_⟩⟩
        have e : (E.count.fall D.loss).loss = D.loss := HCL.out
        rw [e]
        exact hm9
    · have hb : ¬ b.length = 512 := by rw [HLN.out]; exact hn
      simp only [hb, ne_eq, not_false_eq_true, if_true] at HC
      obtain rfl := HC.out
      have bn : ((n : Int) != 512) = true := by simp; omega
      clear hb
      go_enter Try.func62, Try.ntmps62
      go_wp2_with (go_at_call 65; refine HA.out.mono ?_; rintro e w' ⟨rfl, rfl⟩; dsimp only)
      go_ret
      exact ⟨rfl, HH.out⟩
  · simp only [ha, ne_eq, not_false_eq_true, if_true] at HC
    obtain rfl := HC.out
    have bn : (D.asked i != 0) = true := by simpa using ha
    clear ha
    go_enter Try.func62, Try.ntmps62
    go_wp2_with (go_at_call 65; refine HA.out.mono ?_; rintro e w' ⟨rfl, rfl⟩; dsimp only)
    go_ret
    exact ⟨rfl, HH.out⟩
end Go.Proofs.Ytpaebopmppbjbaa
