/- The walks of life's plays: a flush, a look. -/
import Derived.Test.YtpdppacafkdgdaaKeep4
set_option linter.unusedVariables false
set_option linter.unusedSimpArgs false
namespace Go.Le
open Go Go.RowKit
theorem strs_set (A B : List (List UInt8)) (rest : List Value) (k : Nat) (x : List UInt8) (hA : A.length = 4) (hB : B.length = 4) (hk : k < 4) (hx : A[k]? = some x) : (strs (A.take k ++ B.drop k) ++ rest).set k (.string ⟨x.toArray⟩) = strs (A.take (k + 1) ++ B.drop (k + 1)) ++ rest := by
  match A, B, hA, hB with
  | [a0, a1, a2, a3], [b0, b1, b2, b3], _, _ =>
    have hk4 : k = 0 ∨ k = 1 ∨ k = 2 ∨ k = 3 := by omega
    rcases hk4 with rfl | rfl | rfl | rfl <;> (simp at hx; subst hx; rfl)
/-- the pendings of a list and one more, whose bytes are a row -/
theorem Mem.push_row {wb w : World} {R : HP} {u pt : TypeId} {a' : Option Addr} {c' j : Nat} {ba : Option Addr} {bc : Nat} {zs : List Pz} {L : List (Nat × List UInt8)} {b : List UInt8} (h : Mem wb w (row pt 2 a' (L.length + 1) c' (pzCells zs ++ [.int .i64 (j : Int), .slice ba b.length bc]) * (all (zs.map (pzRow u)) * (row u 1 ba b.length bc (byts b) * R))))
    (hz : zs.map (·.1) = L) : Mem wb w (Le.pends u pt a' c' (L ++ [(j, b)]) * R) := by
  refine Mem.pends.2 ⟨zs ++ [((j, b), (ba, bc))], by simp [hz], ?_⟩
  rw [List.map_append, List.map_cons, List.map_nil, all_snoc, pzCells_snoc]
  simp only [List.length_append, List.length_cons, List.length_nil]
  refine h.eq ?_
  unfold pzRow
  ac_rfl
end Go.Le
namespace Go.Proofs.Ytpdppacafkdgdaa
open Go Go.RowKit Go.Le

theorem life_image {wb w : World} {R : HP} {g : Nat} {D' : Dev} {A B : List (List UInt8)} {L : List (Nat × List UInt8)} {k : Nat} {x : List UInt8} (h : Mem wb w (lifeH g ⟨D', A.take k ++ B.drop k, L⟩ * R)) (hA : A.length = 4) (hB : B.length = 4) (hk : k < 4) (hx : A[k]? = some x) :
    ∃ gv vc ov, w.cell? ⟨g, 1, none⟩ = some (.slice (some ⟨gv, 0, none⟩) 4 vc) ∧ 4 ≤ vc ∧ vc ≤ 9223372036854775807 ∧ w.cell? ⟨gv, k, none⟩ = some ov ∧ w.frozen? ⟨gv, k, none⟩ = false ∧ Mem wb (w.setCell ⟨gv, k, none⟩ (.string ⟨x.toArray⟩)) (lifeH g ⟨D', A.take (k + 1) ++ B.drop (k + 1), L⟩ * R) := by
  obtain ⟨gd, va, vc, la, lc, hL⟩ := Mem.lifeAt.1 h
  have hl4 : (Life.mk D' (A.take k ++ B.drop k) L).image.length = 4 := by show (A.take k ++ B.drop k).length = 4; rw [List.length_append, List.length_take, List.length_drop]; omega
  have hl5 : (A.take (k + 1) ++ B.drop (k + 1)).length = 4 := by rw [List.length_append, List.length_take, List.length_drop]; omega
  rw [hl4] at hL
  have c1 := hL.cell 1
  simp only [List.getElem?_cons_zero, List.getElem?_cons_succ] at c1
  obtain ⟨gv, rest, rfl, v1, v2, v3, v4, hv⟩ := hL.p1.row_at (by omega)
  have cv := hv.cell k
  obtain ⟨ov, hov⟩ : ∃ ov, (strs (A.take k ++ B.drop k) ++ rest)[k]? = some ov := ⟨_, List.getElem?_eq_getElem (by rw [List.length_append]; have := v1; replace this : (strs (A.take k ++ B.drop k)).length = 4 * 1 := this; omega)⟩
  refine ⟨gv, vc, ov, c1, v2, v3, by rw [← hov]; exact cv, hv.frozen k, ?_⟩
  have hsv := hv.setCell k (.string ⟨x.toArray⟩)
  have hset : (strs (Life.mk D' (A.take k ++ B.drop k) L).image ++ rest).set k (.string ⟨x.toArray⟩) = _ := strs_set A B rest k x hA hB hk hx
  rw [hset] at hsv
  rw [v1] at v4
  have hfold := Mem.of_row (e := 9) (s := 1) (n := 4) (c := vc) (rest := rest) (xs := strs (A.take (k + 1) ++ B.drop (k + 1))) rfl (by rw [strs_length, hl5]) v2 v3 (by rw [strs_length, hl5]; exact v4) hsv
  refine (Mem.lifeAt (t := T8) (lt := 32) (st := 9) (g := g) (V := ⟨D', A.take (k + 1) ++ B.drop (k + 1), L⟩)).2 ⟨gd, some ⟨gv, 0, none⟩, vc, la, lc, ?_⟩
  show Mem wb _ (pts g 32 [.pointer (some ⟨gd, 0, none⟩), .slice (some ⟨gv, 0, none⟩) (A.take (k + 1) ++ B.drop (k + 1)).length vc, .slice la L.length lc] * (row 9 1 (some ⟨gv, 0, none⟩) (A.take (k + 1) ++ B.drop (k + 1)).length vc (strs (A.take (k + 1) ++ B.drop (k + 1))) * (pends T8.u8 T8.pe la lc L * (devAt T8 gd D' * R))))
  rw [hl5]
  exact hfold.p1

theorem life_nil {wb w : World} {R : HP} {g : Nat} {V : Life} (h : Mem wb w (lifeH g V * R)) : ∃ v, w.cell? ⟨g, 2, none⟩ = some v ∧ w.frozen? ⟨g, 2, none⟩ = false ∧ Mem wb (w.setCell ⟨g, 2, none⟩ (.slice none 0 0)) (lifeH g { V with list := [] } * R) := by
  obtain ⟨gd, va, vc, la, lc, hL⟩ := Mem.lifeAt.1 h
  refine ⟨_, hL.cell 2, hL.frozen 2, ?_⟩
  have hs := hL.setCell 2 (.slice none 0 0)
  have hnil := Mem.pends_nil (u := T8.u8) (pt := T8.pe) hs.p2.right
  exact (Mem.lifeAt (t := T8) (lt := 32) (st := 9) (g := g) (V := { V with list := [] })).2 ⟨gd, va, vc, none, 0, hnil.q2⟩

/-- a life's list, and what one more makes of it -/
theorem life_list {wb w : World} {R : HP} {g : Nat} {V : Life} {b : List UInt8} {ba : Option Addr} {bn bc : Nat} (h : Mem wb w (row 5 1 ba bn bc (byts b) * (lifeH g V * R))) (hbn : b.length = bn) : ∃ (la : Option Addr) (lc : Nat) (cs : List Value) (REST : HP), w.cell? ⟨g, 2, none⟩ = some (.slice la V.list.length lc) ∧ lc ≤ 9223372036854775807 ∧ V.list.length ≤ lc ∧
    Mem wb w (row T8.pe 2 la V.list.length lc cs * REST) ∧ (∀ v ∈ cs, v.oneCell' = true) ∧ ∀ (w' : World) (a' : Option Addr) (c' j : Nat), Mem wb w' (row T8.pe 2 a' (V.list.length + 1) c' (cs ++ [.int .i64 (j : Int), .slice ba bn bc]) * REST) →
      (∃ v, w'.cell? ⟨g, 2, none⟩ = some v) ∧ w'.frozen? ⟨g, 2, none⟩ = false ∧ Mem wb (w'.setCell ⟨g, 2, none⟩ (.slice a' (V.list.length + 1) c')) (lifeH g { V with list := V.list ++ [(j, b)] } * R) := by
  subst hbn
  obtain ⟨gd, va, vc, la, lc, hL⟩ := Mem.lifeAt.1 h.p1
  obtain ⟨zs, hz, hp⟩ := Mem.pends.1 hL.p2
  have hlen := hp.row_len
  refine ⟨la, lc, pzCells zs, all (zs.map (pzRow T8.u8)) * (pts g 32 [.pointer (some ⟨gd, 0, none⟩), .slice va V.image.length vc, .slice la V.list.length lc] * (row 9 1 va V.image.length vc (strs V.image) * (devAt T8 gd V.d * (row 5 1 ba b.length bc (byts b) * R)))), hL.cell 2, hlen.2.2, hlen.2.1, hp.eq (by ac_rfl), pzCells_one zs, fun w' a' c' j hm => ?_⟩
  have hm2 := hm.p2
  refine ⟨⟨_, hm2.cell 2⟩, hm2.frozen 2, ?_⟩
  have hs := hm2.setCell 2 (.slice a' (V.list.length + 1) c')
  have hpush := Mem.push_row (u := T8.u8) (pt := T8.pe) (a' := a') (c' := c') (j := j) (ba := ba) (bc := bc) (b := b) (R := pts g 32 [.pointer (some ⟨gd, 0, none⟩), .slice va V.image.length vc, .slice a' (V.list.length + 1) c'] * (row 9 1 va V.image.length vc (strs V.image) * (devAt T8 gd V.d * R))) (hs.eq (by simp only [List.set_cons_succ, List.set_cons_zero, T8]; ac_rfl)) hz
  refine (Mem.lifeAt (t := T8) (lt := 32) (st := 9) (g := g) (V := { V with list := V.list ++ [(j, b)] })).2 ⟨gd, va, vc, a', c', ?_⟩
  have e : (V.list ++ [(j, b)]).length = V.list.length + 1 := by simp
  show Mem wb _ (pts g 32 [.pointer (some ⟨gd, 0, none⟩), .slice va V.image.length vc, .slice a' (V.list ++ [(j, b)]).length c'] * (row 9 1 va V.image.length vc (strs V.image) * (pends T8.u8 T8.pe a' c' (V.list ++ [(j, b)]) * (devAt T8 gd V.d * R))))
  rw [e]
  exact hpush.q2

/-- a step as the law's functions take it -/
def stepVal (kind which i : Int) (x : UInt8) (ba : Option Addr) (bn bc : Nat) (la : Option Addr) (lc : Nat) (l : Loss) : Value :=
  .agg #[.int .i64 kind, .int .i64 which, .int .i64 i, .int .u8 (x.toNat : Int), .slice ba bn bc, .slice la l.keep.length lc, .int .i64 l.torn, .int .i64 l.off]

set_option maxRecDepth 20000 in
set_option maxHeartbeats 4000000 in
theorem plays_look (wb w : World) (R : HP) (g : Nat) (D : Dev) (N : Nat) (h : Mem wb w (lifeH g (lifeOf D) * R)) (hg : Le.Good D N) (hN : N ≤ 1000) (kind which i : Int) (i1 : -9223372036854775808 ≤ i) (i2 : i ≤ 9223372036854775807) (hk : kind = 1 ∨ kind = 9)
    (x : UInt8) (ba : Option Addr) (bn bc : Nat) (la : Option Addr) (lc : Nat) (l : Loss) :
    Calls Try.prog 18 #[.pointer (some ⟨g, 0, none⟩), stepVal kind which i x ba bn bc la lc l] w fun e w' => e = .returned (.bool true) ∧ Mem wb w' (lifeH g (lifeOf D) * R) := by
  have hbox := hid (h.alloc [.int .i64 kind, .int .i64 which, .int .i64 i, .int .u8 (x.toNat : Int), .slice ba bn bc, .slice la l.keep.length lc, .int .i64 l.torn, .int .i64 l.off] 50)
  have P := hid (fun w => pick_any w i 4 (by omega) (by omega) i1 i2)
  have HG := hid hg
  unfold stepVal
  clear h hg
  rcases hk with rfl | rfl
  all_goals
    go_enter Try.func18, Try.ntmps18
    go_wp2_with fail
    refine (P.out _).mono ?_
    rintro e w' ⟨rfl, rfl⟩
    dsimp only
    have hpp := HG.out.pend
    have HRS := hid (reads_any wb _ _ g _ hbox.out.p1 (by show D.pend.length ≤ _; omega) (by show D.pend.length ≤ _; omega) HG.out.down HG.out.n rfl (by
      intro i b hi hib
      rw [show (lifeOf D).image = secs D from rfl, secs_at _ i hi] at hib
      obtain rfl := Option.some.inj hib
      rfl))
    have HSE : Hid (∀ i b, i < 4 → (lifeOf D).image[i]? = some b → sec (lifeOf D).d.img i = b) := by
      intro i b hi hib
      rw [show (lifeOf D).image = secs D from rfl, secs_at _ i hi] at hib
      exact Option.some.inj hib
    go_wp2_with (first | (go_at_call 19; refine HRS.out.mono ?_; rintro e w' ⟨rfl, hm11⟩; dsimp only) | (go_at_call 20; refine (durable_any wb _ _ g _ hm11 HG.out.img rfl HSE.out).mono ?_; rintro e w' ⟨rfl, hm12⟩; dsimp only))
    have HF := hid hm12.p1.right
    go_wp2_with fail
    go_ret
    exact ⟨rfl, HF.out⟩

set_option maxRecDepth 20000 in
set_option maxHeartbeats 4000000 in
theorem plays_flush (wb w : World) (R : HP) (g : Nat) (D : Dev) (N : Nat) (h : Mem wb w (lifeH g (lifeOf D) * R)) (hg : Le.Good D N) (hN : N ≤ 1000) (which i : Int) (i1 : -9223372036854775808 ≤ i) (i2 : i ≤ 9223372036854775807)
    (x : UInt8) (ba : Option Addr) (bn bc : Nat) (la : Option Addr) (lc : Nat) (l : Loss) :
    Calls Try.prog 18 #[.pointer (some ⟨g, 0, none⟩), stepVal 4 which i x ba bn bc la lc l] w fun e w' => e = .returned (.bool true) ∧ ∃ D', Le.Good D' N ∧ Mem wb w' (lifeH g (lifeOf D') * R) := by
  have hbox := h.alloc [.int .i64 4, .int .i64 which, .int .i64 i, .int .u8 (x.toNat : Int), .slice ba bn bc, .slice la l.keep.length lc, .int .i64 l.torn, .int .i64 l.off] 50
  have P := hid (fun w => pick_any w i 4 (by omega) (by omega) i1 i2)
  have HG := hid hg
  have hpp := hg.pend
  have bx0 := hbox.cell 0
  have bx2 := hbox.cell 2
  simp only [List.getElem?_cons_zero, List.getElem?_cons_succ] at bx0 bx2
  obtain ⟨gd, A, c0, hdv, hback⟩ := life_dev hbox.p1
  have HFL := hid (Flush_any wb _ _ gd D hdv (by omega))
  obtain ⟨f0, fg, fp, fs⟩ := hg.flush
  rw [f0] at HFL
  have HFG := hid fg
  have HFP := hid fp
  have HFS := hid fs
  have HBK := hid hback
  unfold stepVal
  clear h hg hdv hback fg fp fs f0 hbox
  go_enter Try.func18, Try.ntmps18
  go_wp2_with fail
  refine (P.out _).mono ?_
  rintro e w' ⟨rfl, rfl⟩
  dsimp only
  go_wp2_with fail
  refine HFL.out.mono ?_
  rintro e w2 ⟨rfl, hm2⟩
  dsimp only
  have hm3 := hid (HBK.out w2 D.flush.1 _ hm2).2
  generalize hE : D.flush.1 = E at *
  clear hm2 c0 HFL bx0 bx2
  go_wp2_with fail
  go_loopw [7] (fun j wr => ∃ k : Nat, k ≤ 4 ∧ j = .int .i64 k ∧ Mem wb wr (lifeH g ⟨E, (secs E).take k ++ (secs D).drop k, D.pend⟩ * (_ * R))) (fun j _ => 4 - (intOf j).toNat)
  case atStart => exact ⟨0, by omega, rfl, hm3.out⟩
  case round =>
    obtain ⟨k, hk, rfl, hm⟩ := hrel
    clear hm3
    by_cases hlt : k < 4
    · obtain ⟨gv, vc, ov, v1, v2, v3, v4, v5, v6⟩ := life_image hm (secs_length E) (secs_length D) hlt (secs_at E k hlt)
      have himg : ((secs E).take k ++ (secs D).drop k)[k]? = some (sec D.img k) := by
        rw [List.getElem?_append_right (by rw [List.length_take, secs_length]; omega), List.length_take, secs_length, List.getElem?_drop, ← secs_at D k hlt]
        congr 1
        omega
      have HLA := hid (last_any wb wr.drew _ g ⟨E, (secs E).take k ++ (secs D).drop k, D.pend⟩ hm.drew (by show D.pend.length ≤ _; omega) k _ himg (by show ((secs E).take k ++ (secs D).drop k).length ≤ _; simp [secs_length]; omega))
      rw [← HFS.out k hlt] at HLA
      have HM6 := hid v6.drew
      have k4 : (k : Int) < 4 := by omega
      have k5 : (k : Int) < (vc : Int) := by omega
      clear v6 hm himg
      go_wp2_with fail
      go_region_law ((go_simp; go_at_call 39; go_loud ((with_reducible refine HLA.out.mono ?_); rintro e w' ⟨rfl, rfl⟩; dsimp only)))
      all_goals
        go_wp2_with fail
        go_roundw
        case rel => exact ⟨k + 1, by omega, by go_num, HM6.out⟩
        case measure => simp [intOf] <;> omega
    · obtain rfl : k = 4 := by omega
      rw [show (secs E).take 4 ++ (secs D).drop 4 = secs E from rfl] at hm
      rw [show ((4 : Nat) : Int) = 4 from rfl]
      obtain ⟨v2, n1, n2, hm5⟩ := life_nil hm
      have e5 : Life.mk E (secs E) [] = lifeOf E := by unfold lifeOf; rw [HFP.out]
      dsimp only at hm5
      rw [e5] at hm5
      obtain ⟨gd6, A6, e0, hdv, hback⟩ := life_dev hm5
      obtain ⟨hok6, ka6, kc6, h6⟩ := Mem.devAt.1 hdv
      have HCA := hid (Cache_any wb _ _ gd6 (lifeOf E).d ka6 _ kc6 h6 hok6 (by show E.pend.length ≤ _; rw [HFP.out]; simp))
      have hpl : (lifeOf E).d.pend.length = 0 := by show E.pend.length = 0; rw [HFP.out]; rfl
      rw [hpl] at HCA
      have HBK6 := hid hback
      have HSE : Hid (∀ i b, i < 4 → (lifeOf E).image[i]? = some b → sec (lifeOf E).d.img i = b) := by
        intro i b hi hib
        rw [show (lifeOf E).image = secs E from rfl, secs_at _ i hi] at hib
        exact Option.some.inj hib
      clear hm hm5 hdv hback h6 hpl
      go_wp2_with (first | (go_at_call 27; refine HCA.out.mono ?_; rintro e w7 ⟨a7, rfl, hm7⟩; have h8 := (HBK6.out w7 (lifeOf E).d _ (Mem.devAt.2 ⟨hok6, ka6, kc6, hm7.right⟩)).2; dsimp only) | (go_at_call 20; refine (durable_any wb _ _ g _ h8 HFG.out.img rfl HSE.out).mono ?_; rintro e w' ⟨rfl, hm12⟩; dsimp only))
      have HF := hid hm12.p1.right
      go_wp2_with fail
      go_ret
      exact ⟨rfl, E, HFG.out, HF.out⟩
end Go.Proofs.Ytpdppacafkdgdaa
