/- The walks of life's plays: a write. -/
import Derived.Test.YtpdppacafkdgdaaKeep7
import Derived.Test.YtpdppacafkdgdaaVals
import Derived.Deep.CutBlock
import Derived.Deep.DeepCutAuto
set_option linter.unusedVariables false
set_option linter.unusedSimpArgs false
namespace Go.Proofs.Ytpdppacafkdgdaa
open Go Go.RowKit Go.Le

/-- a life's list, and what one more makes of it; the bytes come later -/
theorem life_list0 {wb w : World} {R : HP} {g : Nat} {V : Life} (h : Mem wb w (lifeH g V * R)) : ∃ (la : Option Addr) (lc : Nat) (cs : List Value) (REST : HP), w.cell? ⟨g, 2, none⟩ = some (.slice la V.list.length lc) ∧ lc ≤ 9223372036854775807 ∧ V.list.length ≤ lc ∧
    Mem wb w (row T8.pe 2 la V.list.length lc cs * (REST * R)) ∧ ∀ (w' : World) (a' : Option Addr) (c' j : Nat) (b : List UInt8) (ba : Option Addr) (bn bc : Nat) (R' : HP), b.length = bn → Mem wb w' (row T8.pe 2 a' (V.list.length + 1) c' (cs ++ [.int .i64 (j : Int), .slice ba bn bc]) * (REST * (row 5 1 ba bn bc (byts b) * R'))) →
      (∃ v, w'.cell? ⟨g, 2, none⟩ = some v) ∧ w'.frozen? ⟨g, 2, none⟩ = false ∧ Mem wb (w'.setCell ⟨g, 2, none⟩ (.slice a' (V.list.length + 1) c')) (lifeH g { V with list := V.list ++ [(j, b)] } * R') := by
  obtain ⟨gd, va, vc, la, lc, hL⟩ := Mem.lifeAt.1 h
  obtain ⟨zs, hz, hp⟩ := Mem.pends.1 hL.p2
  have hlen := hp.row_len
  refine ⟨la, lc, pzCells zs, all (zs.map (pzRow T8.u8)) * (pts g 32 [.pointer (some ⟨gd, 0, none⟩), .slice va V.image.length vc, .slice la V.list.length lc] * (row 9 1 va V.image.length vc (strs V.image) * (devAt T8 gd V.d))), hL.cell 2, hlen.2.2, hlen.2.1, hp.eq (by ac_rfl), fun w' a' c' j b ba bn bc R' hbn hm => ?_⟩
  subst hbn
  have hm2 := (hm.eq (by ac_rfl : _ = pts g 32 [.pointer (some ⟨gd, 0, none⟩), .slice va V.image.length vc, .slice la V.list.length lc] * (row T8.pe 2 a' (V.list.length + 1) c' (pzCells zs ++ [.int .i64 (j : Int), .slice ba b.length bc]) * (all (zs.map (pzRow T8.u8)) * (row 9 1 va V.image.length vc (strs V.image) * (devAt T8 gd V.d * (row 5 1 ba b.length bc (byts b) * R')))))))
  refine ⟨⟨_, hm2.cell 2⟩, hm2.frozen 2, ?_⟩
  have hs := hm2.setCell 2 (.slice a' (V.list.length + 1) c')
  have hpush := Mem.push_row (u := T8.u8) (pt := T8.pe) (a' := a') (c' := c') (j := j) (ba := ba) (bc := bc) (b := b) (R := pts g 32 [.pointer (some ⟨gd, 0, none⟩), .slice va V.image.length vc, .slice a' (V.list.length + 1) c'] * (row 9 1 va V.image.length vc (strs V.image) * (devAt T8 gd V.d * R'))) (hs.eq (by simp only [List.set_cons_succ, List.set_cons_zero, T8]; ac_rfl)) hz
  refine (Mem.lifeAt (t := T8) (lt := 32) (st := 9) (g := g) (V := { V with list := V.list ++ [(j, b)] })).2 ⟨gd, va, vc, a', c', ?_⟩
  have e : (V.list ++ [(j, b)]).length = V.list.length + 1 := by simp
  show Mem wb _ (pts g 32 [.pointer (some ⟨gd, 0, none⟩), .slice va V.image.length vc, .slice a' (V.list ++ [(j, b)]).length c'] * (row 9 1 va V.image.length vc (strs V.image) * (pends T8.u8 T8.pe a' c' (V.list ++ [(j, b)]) * (devAt T8 gd V.d * R'))))
  rw [e]
  exact hpush.q2

set_option maxRecDepth 20000 in
set_option maxHeartbeats 40000000 in
theorem plays_write (wb w : World) (R : HP) (g : Nat) (D : Dev) (N : Nat) (h : Mem wb w (lifeH g (lifeOf D) * R)) (hg : Le.Good D N) (hN : N ≤ 900) (kind which i : Int) (i1 : -9223372036854775808 ≤ i) (i2 : i ≤ 9223372036854775807) (hk : ¬ (kind = 4 ∨ kind = 7 ∨ kind = 8 ∨ kind = 5 ∨ kind = 6 ∨ kind = 1 ∨ kind = 9))
    (x : UInt8) (ba : Option Addr) (bn bc : Nat) (b : List UInt8) (hsb : ∀ w', Mem wb w' R → Sl w' ba bn bc (byts b)) (la : Option Addr) (lc : Nat) (l : Loss) :
    Calls Try.prog 18 #[.pointer (some ⟨g, 0, none⟩), stepVal kind which i x ba bn bc la lc l] w fun e w' => e = .returned (.bool true) ∧ ∃ D', Le.Good D' (N + 1) ∧ Mem wb w' (lifeH g (lifeOf D') * R) := by
  have hbox := h.alloc [.int .i64 kind, .int .i64 which, .int .i64 i, .int .u8 (x.toNat : Int), .slice ba bn bc, .slice la l.keep.length lc, .int .i64 l.torn, .int .i64 l.off] 50
  obtain ⟨j, hj⟩ : ∃ j : Nat, i % 4 = (j : Int) := ⟨(i % 4).toNat, by omega⟩
  have hj4 : j < 4 := by omega
  have P := hid (fun w => pick_any w i 4 (by omega) (by omega) i1 i2)
  rw [hj] at P
  obtain ⟨a1, a2, a3, a4⟩ := hg.write j hj4 (secFill x b) (secFill_length x b)
  have hpp := hg.pend
  have bx0 := hbox.cell 0
  have bx2 := hbox.cell 2
  have bx3 := hbox.cell 3
  have bx4 := hbox.cell 4
  simp only [List.getElem?_cons_zero, List.getElem?_cons_succ] at bx0 bx2 bx3 bx4
  have HSE := hid (lawSector_any wb _ _ hbox x ba bn bc b (hsb _ hbox.right.right))
  have k4 : (kind == 4) = false := by simp; omega
  have k5 : (kind == 5) = false := by simp; omega
  have k6 : (kind == 6) = false := by simp; omega
  have k7 : (kind == 7) = false := by simp; omega
  have k8 : (kind == 8) = false := by simp; omega
  have k9 : (kind == 9) = false := by simp; omega
  have k1 : (kind == 1) = false := by simp; omega
  have HA1 := hid a1
  have HA2 := hid a2
  have HA3 := hid a3
  have HA4 := hid a4
  have HSB := hid hsb
  have HSL := hid (secFill_length x b)
  have HZ : Hid (∃ z, z = secFill x b) := ⟨_, rfl⟩
  obtain ⟨pi, hi, hzz, hsz, hby⟩ := info_parts peInfo
  have JI := hid hi
  have JZ := hid hzz
  have JS := hid hsz
  have JB := hid hby
  clear hi hzz hsz hby
  unfold stepVal
  clear h hg hbox a1 a2 a3 a4 hj hsb hk
  obtain ⟨z, hz⟩ := HZ.out
  rw [← hz] at HSL HA1 HA2 HA3 HA4 HSE
  have HZZ := hid hz
  clear hz HZ
  go_enter Try.func18, Try.ntmps18
  go_wp2_with fail
  refine (P.out _).mono ?_
  rintro e w' ⟨rfl, rfl⟩
  dsimp only
  go_wp2_with fail
  refine HSE.out.mono ?_
  rintro e w2 ⟨gs, rfl, -, hm2, -⟩
  dsimp only
  obtain ⟨gd, A, c0, hdv, hback⟩ := life_dev hm2.p2
  have HBK := hid hback
  have HWR := hid (Write_any wb _ _ gd D hdv (by omega) j (by omega) (by omega) (some ⟨gs, 0, none⟩) 512 512 z hm2.row_sl)
  rw [HA1.out] at HWR
  clear hm2 hdv hback HSE bx0 bx2 bx3 bx4
  go_wp2_with fail
  refine HWR.out.mono ?_
  rintro e w5 ⟨rfl, hm5⟩
  dsimp only
  have hm6 := (HBK.out w5 _ _ hm5).2.p1.right
  generalize hE : (D.write j z).1 = E at *
  have d3 := hm6.p1.cell 3
  have d4 := hm6.p1.cell 4
  simp only [List.getElem?_cons_zero, List.getElem?_cons_succ] at d3 d4
  obtain ⟨la2, lc2, cs, REST, c2, l2, l3, l4, l5⟩ := life_list0 hm6
  dsimp only [lifeOf] at c2 l2 l3 l4 l5
  have HSE2 := hid (lawSector_any wb _ _ l4.drew x ba bn bc b (HSB.out _ hm6.right.right.drew))
  rw [← HZZ.out] at HSE2
  have HL5 := hid l5
  have HE5 : Hid (Life.mk E (secs D) (D.pend ++ [(j, z)]) = lifeOf E) := by
    show _ = _
    unfold lifeOf secs; rw [HA3.out, HA4.out]
  clear hm5 hm6 l4 l5 c0 HWR
  go_upto_region 27 with fail
  go_cut [] from 144 to 159 (fun wx => Mem wb wx (lifeH g (lifeOf E) * (pts w.heap.size 50 [.int .i64 kind, .int .i64 which, .int .i64 i, .int .u8 (x.toNat : Int), .slice ba bn bc, .slice la l.keep.length lc, .int .i64 l.torn, .int .i64 l.off] * R)))
  case first =>
    go_region_law (first | ((with_reducible show (if Region.wanted (Oper.mk (some 157) _ _ _ _ _) _ = true then _ else _)); go_loud (refine step_append (by rfl) (.tmp 148) (.tmp 156) 30 (by rfl) Try.underlying30 JI.out JZ.out JS.out JB.out (by rfl) (by omega) (by rfl) (by rfl) hq.out.p2 rfl (by rfl) (news_built hq.out.blk.1) (by intro h; cases h) (by simp; exact ⟨rfl, rfl⟩) (by omega) (by omega) ?_); intro a' c' w6 hm6 _ _; obtain ⟨⟨v6, x6⟩, y6, hm7⟩ := HL5.out w6 a' c' j z (some ⟨gk, 0, none⟩) 512 512 _ HSL.out (hm6.duo_row.p1.right.p2.p1)) | ((with_reducible show (if Region.wanted (Oper.mk (some 154) _ _ _ _ _) _ = true then _ else _)); go_simp; go_at_call 13; go_loud ((with_reducible refine HSE2.out.mono ?_); rintro e w3 ⟨gk, rfl, -, hm3, hfr⟩; have c2 := Fr.cell_ext hfr c2; have c2b : ∀ o : Obj, (w3.alloc o).cell? _ = _ := fun o => Fr.cell_ext (w := w3) (by repeat (first | exact Fr.refl _ _ _ | assumption | apply Fr.drew | (refine Fr.drewN ?_ _) | (refine Fr.alloc ?_ (by first | omega | (simp; done) | (simp; omega)) _) | (refine Fr.setCell ?_ (by first | (left; simp; done) | (right; simp; done) | (right; simp; omega)) _))) c2; dsimp only; have hq := hid (hm3.alloc [.int .i64 (j : Int), .slice (some ⟨gk, 0, none⟩) 512 512] T8.pe))))
    all_goals
      rw [HE5.out] at hm7
      have HM7 := hid hm7
      clear hm3 hm6 hm7 hq HSE2
      go_wp2_with fail
      go_meet
      exact HM7.out
  case rest =>
    have hm7 := hcut
    obtain ⟨gd3, va3, vc3, la3, lc3, hL⟩ := Mem.lifeAt.1 hm7
    have d0 := hL.cell 0
    have d2 := hL.cell 2
    simp only [List.getElem?_cons_zero, List.getElem?_cons_succ] at d0 d2
    obtain ⟨hok3, ka3, kc3, h3⟩ := Mem.devAt.1 hL.p3
    obtain ⟨m, hpe⟩ : ∃ m, (lifeOf E).d.pend.length = m := ⟨_, rfl⟩
    have hml : m = D.pend.length + 1 := by rw [← hpe]; show E.pend.length = _; rw [HA3.out]; simp
    have hpe2 : (lifeOf E).list.length = m := hpe
    have HCA := hid (fun wq h => Cache_any wb wq (g := gd3) (D := (lifeOf E).d) (ka := ka3) (kn := (lifeOf E).d.loss.keep.length) (kc := kc3) (R := keepAt T8 (ka3, kc3) (lifeOf E).d.loss * (pts g 32 [.pointer (some ⟨gd3, 0, none⟩), .slice va3 (lifeOf E).image.length vc3, .slice la3 m lc3] * (row 9 1 va3 (lifeOf E).image.length vc3 (strs (lifeOf E).image) * (pends T8.u8 T8.pe la3 lc3 (lifeOf E).list * (pts w.heap.size 50 [.int .i64 kind, .int .i64 which, .int .i64 i, .int .u8 (x.toNat : Int), .slice ba bn bc, .slice la l.keep.length lc, .int .i64 l.torn, .int .i64 l.off] * R))))) h hok3 (by rw [hpe]; omega))
    rw [hpe2] at h3
    rw [hpe] at HCA
    have h3' := hid h3
    clear hm7 hcut hL h3 hpe d0 d2
    go_wp2_with fail
    refine region_vals (by kernel_rfl) h3'.out (V := fun i x => match i with | 0 => x = (.int .i64 0 : Value) | 1 => x = (.bool true : Value) | 2 => x = (.bool true : Value) | 3 => x = (.pointer (some ⟨g, 0, none⟩) : Value) | 4 => x = (.pointer (some ⟨g, 0, none⟩) : Value) | 5 => x = (.pointer (some ⟨g, 0, none⟩) : Value) | 6 => x = (.pointer (some ⟨gd3, 0, none⟩) : Value) | 7 => ∃ u, x = (.slice u m m : Value) | 8 => x = (.int .i64 (m : Int) : Value) | 9 => x = (.pointer (some ⟨g, 0, none⟩) : Value) | 10 => x = (.pointer (some ⟨g, 0, none⟩) : Value) | 11 => x = (.pointer (some ⟨g, 2, none⟩) : Value) | 12 => x = (.slice la3 m lc3 : Value) | 13 => x = (.int .i64 (m : Int) : Value) | 14 => x = (.bool true : Value) | 15 => x = (.bool true : Value) | 16 => x = (.bool true : Value) | _ => True) (by kernel_rfl) ?_ ?_
    · refine ⟨?_, ?_, ?_, ?_, ?_, ?_, ?_, ?_, ?_, ?_, ?_, ?_, ?_, ?_, ?_, ?_, ?_, trivial⟩
      · refine Fine.run trivial _ rfl (fun a w hm hf => ?_)
        have e13 : a.eval (.tmp 13) = (.int .i64 0 : Value) := (hf 13 (by decide +kernel)).old (by kernel_rfl)
        simp only [Act.eval, Array.getD_eq_getD_getElem?] at e13
        simp [execOp, resolve, invoke, builtin, go_sem, e13]
      · refine Fine.run trivial _ rfl (fun a w hm hf => ?_)
        have e160 : a.eval (.tmp 160) = (.int .i64 0 : Value) := (hf 160 (by decide +kernel)).new 0 (by kernel_rfl) (by kernel_rfl)
        simp only [Act.eval, Array.getD_eq_getD_getElem?] at e160
        simp [execOp, resolve, invoke, builtin, go_sem, e160]
      · refine Fine.run trivial _ rfl (fun a w hm hf => ?_)
        have e161 : a.eval (.tmp 161) = (.bool true : Value) := (hf 161 (by decide +kernel)).new 1 (by kernel_rfl) (by kernel_rfl)
        simp only [Act.eval, Array.getD_eq_getD_getElem?] at e161
        simp [execOp, resolve, invoke, builtin, go_sem, e161]
      · refine Fine.run ⟨_, rfl, by kernel_rfl, by kernel_rfl, fun _ h => h⟩ _ rfl (fun a w hm hf => ?_)
        have e0 : a.eval (.tmp 0) = (.pointer (some ⟨g, 0, none⟩) : Value) := (hf 0 (by decide +kernel)).old (by kernel_rfl)
        simp only [Act.eval, Array.getD_eq_getD_getElem?] at e0
        simp [execOp, resolve, invoke, builtin, go_sem, e0]
      · refine Fine.run ⟨_, rfl, by kernel_rfl, by kernel_rfl, fun _ h => h⟩ _ rfl (fun a w hm hf => ?_)
        have e163 : a.eval (.tmp 163) = (.pointer (some ⟨g, 0, none⟩) : Value) := (hf 163 (by decide +kernel)).new 3 (by kernel_rfl) (by kernel_rfl)
        simp only [Act.eval, Array.getD_eq_getD_getElem?] at e163
        simp [execOp, resolve, invoke, builtin, go_sem, e163]
      · refine Fine.run ⟨_, rfl, by kernel_rfl, by kernel_rfl, fun _ h => h⟩ _ rfl (fun a w hm hf => ?_)
        have e164 : a.eval (.tmp 164) = (.pointer (some ⟨g, 0, none⟩) : Value) := (hf 164 (by decide +kernel)).new 4 (by kernel_rfl) (by kernel_rfl)
        simp only [Act.eval, Array.getD_eq_getD_getElem?] at e164
        simp [execOp, resolve, invoke, builtin, go_sem, e164]
      · refine Fine.run ⟨_, rfl, by kernel_rfl, by kernel_rfl, fun _ h => h⟩ _ rfl (fun a w hm hf => ?_)
        have e165 : a.eval (.tmp 165) = (.pointer (some ⟨g, 0, none⟩) : Value) := (hf 165 (by decide +kernel)).new 5 (by kernel_rfl) (by kernel_rfl)
        have c := hm.p2.cell 0; simp only [List.getElem?_cons_zero, List.getElem?_cons_succ] at c
        simp only [Act.eval, Array.getD_eq_getD_getElem?] at e165
        simp [execOp, resolve, invoke, builtin, go_sem, e165, c]
      · refine Fine.call ⟨_, rfl, by kernel_rfl, by kernel_rfl, fun _ h => h⟩ 27 #[.pointer (some ⟨gd3, 0, none⟩)] (fun a w hf => ?_) (fun w hm => ?_)
        · have e166 : a.eval (.tmp 166) = (.pointer (some ⟨gd3, 0, none⟩) : Value) := (hf 166 (by decide +kernel)).new 6 (by kernel_rfl) (by kernel_rfl)
          simp only [Act.eval, Array.getD_eq_getD_getElem?] at e166
          simp [execOp, resolve, invoke, go_sem, e166]
        · exact (HCA.out w hm).mono fun e w' ⟨a8, he, hm8⟩ => ⟨_, he, ⟨a8, rfl⟩, hm8.right⟩
      · refine Fine.run ⟨_, rfl, by kernel_rfl, by kernel_rfl, fun _ h => h⟩ _ rfl (fun a w hm hf => ?_)
        obtain ⟨u167, e167⟩ : ∃ u, a.eval (.tmp 167) = (.slice u m m : Value) := (hf 167 (by decide +kernel)).new 7 (by kernel_rfl) (by kernel_rfl)
        simp only [Act.eval, Array.getD_eq_getD_getElem?] at e167
        simp [execOp, resolve, invoke, builtin, go_sem, e167]
      · refine Fine.run ⟨_, rfl, by kernel_rfl, by kernel_rfl, fun _ h => h⟩ _ rfl (fun a w hm hf => ?_)
        have e0 : a.eval (.tmp 0) = (.pointer (some ⟨g, 0, none⟩) : Value) := (hf 0 (by decide +kernel)).old (by kernel_rfl)
        simp only [Act.eval, Array.getD_eq_getD_getElem?] at e0
        simp [execOp, resolve, invoke, builtin, go_sem, e0]
      · refine Fine.run ⟨_, rfl, by kernel_rfl, by kernel_rfl, fun _ h => h⟩ _ rfl (fun a w hm hf => ?_)
        have e169 : a.eval (.tmp 169) = (.pointer (some ⟨g, 0, none⟩) : Value) := (hf 169 (by decide +kernel)).new 9 (by kernel_rfl) (by kernel_rfl)
        simp only [Act.eval, Array.getD_eq_getD_getElem?] at e169
        simp [execOp, resolve, invoke, builtin, go_sem, e169]
      · refine Fine.run ⟨_, rfl, by kernel_rfl, by kernel_rfl, fun _ h => h⟩ _ rfl (fun a w hm hf => ?_)
        have e170 : a.eval (.tmp 170) = (.pointer (some ⟨g, 0, none⟩) : Value) := (hf 170 (by decide +kernel)).new 10 (by kernel_rfl) (by kernel_rfl)
        simp only [Act.eval, Array.getD_eq_getD_getElem?] at e170
        simp [execOp, resolve, invoke, builtin, go_sem, e170]
      · refine Fine.run ⟨_, rfl, by kernel_rfl, by kernel_rfl, fun _ h => h⟩ _ rfl (fun a w hm hf => ?_)
        have e171 : a.eval (.tmp 171) = (.pointer (some ⟨g, 2, none⟩) : Value) := (hf 171 (by decide +kernel)).new 11 (by kernel_rfl) (by kernel_rfl)
        have c := hm.p2.cell 2; simp only [List.getElem?_cons_zero, List.getElem?_cons_succ] at c
        simp only [Act.eval, Array.getD_eq_getD_getElem?] at e171
        simp [execOp, resolve, invoke, builtin, go_sem, e171, c]
      · refine Fine.run ⟨_, rfl, by kernel_rfl, by kernel_rfl, fun _ h => h⟩ _ rfl (fun a w hm hf => ?_)
        have e172 : a.eval (.tmp 172) = (.slice la3 m lc3 : Value) := (hf 172 (by decide +kernel)).new 12 (by kernel_rfl) (by kernel_rfl)
        simp only [Act.eval, Array.getD_eq_getD_getElem?] at e172
        simp [execOp, resolve, invoke, builtin, go_sem, e172]
      · refine Fine.run ⟨_, rfl, by kernel_rfl, by kernel_rfl, fun _ h => h⟩ _ rfl (fun a w hm hf => ?_)
        have e168 : a.eval (.tmp 168) = (.int .i64 (m : Int) : Value) := (hf 168 (by decide +kernel)).new 8 (by kernel_rfl) (by kernel_rfl)
        have e173 : a.eval (.tmp 173) = (.int .i64 (m : Int) : Value) := (hf 173 (by decide +kernel)).new 13 (by kernel_rfl) (by kernel_rfl)
        simp only [Act.eval, Array.getD_eq_getD_getElem?] at e168 e173
        simp [execOp, resolve, invoke, builtin, go_sem, e168, e173]
      · refine Fine.run trivial _ rfl (fun a w hm hf => ?_)
        have e162 : a.eval (.tmp 162) = (.bool true : Value) := (hf 162 (by decide +kernel)).new 2 (by kernel_rfl) (by kernel_rfl)
        have e174 : a.eval (.tmp 174) = (.bool true : Value) := (hf 174 (by decide +kernel)).new 14 (by kernel_rfl) (by kernel_rfl)
        simp only [Act.eval, Array.getD_eq_getD_getElem?] at e162 e174
        simp [execOp, resolve, invoke, builtin, go_sem, e162, e174]
      · refine Fine.run trivial _ rfl (fun a w hm hf => ?_)
        have e175 : a.eval (.tmp 175) = (.bool true : Value) := (hf 175 (by decide +kernel)).new 15 (by kernel_rfl) (by kernel_rfl)
        simp only [Act.eval, Array.getD_eq_getD_getElem?] at e175
        simp [execOp, resolve, invoke, builtin, go_sem, e175]
    · intro u w9 hm9 hu
      have hF := hid hm9
      have h4 : u 4 = _ := hu 4 16 rfl
      simp only [putAll]
      rw [h4]
      have hx : Mem wb w9 (devAt T8 gd3 (lifeOf E).d * _) := Mem.devAt.2 ⟨hok3, ka3, kc3, hF.out⟩
      have hy := hx.q3
      rw [← hpe2] at hy
      have hz : Mem wb w9 (lifeH g (lifeOf E) * _) := (Mem.lifeAt (t := T8) (lt := 32) (st := 9) (g := g) (V := lifeOf E)).2 ⟨gd3, va3, vc3, la3, lc3, hy⟩
      have HF := hid hz.p1.right
      clear hx hy hz
      clear hF hm9 hu h4
      go_simp
      go_wp2_with fail
      go_ret
      exact ⟨rfl, E, HA2.out, HF.out⟩
end Go.Proofs.Ytpdppacafkdgdaa
