/- The walks of wal's Clone of pages, ends, Commit's closures. -/
import Derived.Test.YtpaebopmppbjbaaWal17
import Derived.Lib.SliceRun
set_option linter.unusedVariables false
set_option linter.unusedSimpArgs false
namespace Go.Le
open Go Go.RowKit
/-- pages in memory may be read: numbers and slices -/
def Pgs (w : World) (b : Nat) (zs : List Pz) : Prop := ∀ k z, zs[k]? = some z → w.cell? ⟨b, k * 2, none⟩ = some (.int .i64 (z.1.1 : Int)) ∧ w.cell? ⟨b, k * 2 + 1, none⟩ = some (.slice z.2.1 z.1.2.length z.2.2)
theorem pgCells_at (zs : List Pz) (k : Nat) (z : Pz) (hz : zs[k]? = some z) : (pzCells zs)[k * 2]? = some (.int .i64 (z.1.1 : Int)) ∧ (pzCells zs)[k * 2 + 1]? = some (.slice z.2.1 z.1.2.length z.2.2) := flat2 _ _ zs k z hz
theorem pgCells_length (zs : List Pz) : (pzCells zs).length = zs.length * 2 := flat2_length _ _ zs
theorem Pgs.news {w : World} {b : Nat} {zs : List Pz} (h : Pgs w b zs) : ∀ p : Addr, some (⟨b, 0, none⟩ : Addr) = some p → ∀ j u, (pzCells zs)[j]? = some u → w.cell? (p.add j) = some u := by
  intro p hp j u hu
  cases hp
  have hj : j < zs.length * 2 := by rw [← pgCells_length]; exact (List.getElem?_eq_some_iff.1 hu).1
  rw [Addr.add_lit, Nat.zero_add]
  obtain ⟨z, hz⟩ : ∃ z, zs[j / 2]? = some z := ⟨zs[j / 2]'(by omega), List.getElem?_eq_getElem _⟩
  obtain ⟨h1, h2⟩ := h _ _ hz
  obtain ⟨h3, h4⟩ := pgCells_at _ _ _ hz
  rcases Nat.mod_two_eq_zero_or_one j with hm | hm
  · have e : j / 2 * 2 = j := by omega
    rw [e] at h1 h3
    rw [h3] at hu
    rw [h1, hu]
  · have e : j / 2 * 2 + 1 = j := by omega
    rw [e] at h2 h4
    rw [h4] at hu
    rw [h2, hu]
/-- a row of pages may be read -/
theorem Mem.pgs {wb w : World} {R : HP} {e : TypeId} {b n c : Nat} {zs : List Pz} (h : Mem wb w (row e 2 (some ⟨b, 0, none⟩) n c (pzCells zs) * R)) : Pgs w b zs := by
  intro k z hz
  obtain ⟨h3, h4⟩ := pgCells_at _ _ _ hz
  have h1 := (h.row_cell _ rfl _ _ h3).1
  have h2 := (h.row_cell _ rfl _ _ h4).1
  rw [Addr.add_lit, Nat.zero_add] at h1 h2
  exact ⟨h1, h2⟩
end Go.Le
namespace Go.Proofs.Ytpaebopmppbjbaa
open Go Go.RowKit Go.Le
theorem pwInfo : (Try.prog.info? 98).map (fun i => (i.zero, i.size, i.bytes)) = some (some (.agg #[.int .i64 0, .slice none 0 0]), 2, 32) := by kernel_rfl

set_option maxRecDepth 20000 in
set_option maxHeartbeats 2000000 in
theorem PwClone_any (wb w : World) (R : HP) (h : Mem wb w R) (b n c : Nat) (zs : List Pz) (hn : zs.length = n) (hn2 : n ≤ 1000) (h0 : 0 < n) (hs : Pgs w b zs) :
    Calls Try.prog 50 #[.slice (some ⟨b, 0, none⟩) n c] w fun e w' => ∃ b2 c2, e = .returned (.slice (some ⟨b2, 0, none⟩) n c2) ∧ Mem wb w' (row 98 2 (some ⟨b2, 0, none⟩) n c2 (pzCells zs) * R) := by
  have hnq : ∀ w : World, (binOp .eql 68 (.slice (some ⟨b, 0, none⟩) n c) (.slice none 0 0)).run Try.prog w = .ok (.bool false) w := fun w => Lib.run_eql_slice_nil (P := Try.prog) w 68 98 (some ⟨b, 0, none⟩) n c 0 0 Try.underlying68
  obtain ⟨pi, hi, hzz, hsz, hby⟩ := info_parts pwInfo
  have hx : Mem wb ((w.alloc (.cells #[] 98))) (row 98 2 (some ⟨w.heap.size, 0, none⟩) 0 0 [] * R) := Mem.of_row (rest := []) rfl (by rfl) (Nat.le_refl _) (by omega) (by simp) (h.alloc [] 98)
  have hs2 : Pgs (w.alloc (.cells #[] 98)) b zs := fun k z hz => by
    obtain ⟨h1, h2⟩ := hs k z hz
    have f := ((Fr.refl w.heap.size [] w).alloc (Nat.le_refl _) (.cells #[] 98))
    exact ⟨f.cell_ext h1, f.cell_ext h2⟩
  have hnews := hs2.news
  have hl := pgCells_length zs
  have h1c : ∀ u ∈ pzCells zs, u.oneCell' = true := by
    intro u hu
    unfold pzCells at hu
    obtain ⟨z, _, hz⟩ := List.mem_flatMap.1 hu
    simp only [List.mem_cons, List.not_mem_nil, or_false] at hz
    rcases hz with rfl | rfl <;> rfl
  have HN := hid hnews
  have HX := hid hx
  have H1 := hid h1c
  have HL := hid hl
  have HH := hid h
  clear h hs hs2 hnews hx h1c hl
  go_enter Try.func50, Try.ntmps50
  go_wp2_with ((with_reducible show wpList _ _ _ (Oper.mk (some 7) _ _ _ _ _ :: _) _ _); refine wpList_append (by rfl) (.tmp 5) (.tmp 6) 68 (by rfl) Try.underlying68 hi hzz hsz hby rfl (by omega) (by rfl) (by rfl) HX.out rfl (by rw [HL.out, hn]) HN.out (fun h => by cases h) H1.out (by omega) (by omega) ?_; intro a' c' w2 hm2 hnn _; clear hi hzz hsz hby)
  have hm3 := hm2.duo_row
  rw [Nat.zero_add, List.nil_append] at hm3
  obtain ⟨g2, rest, rfl, r1, r2, r3, r4, hm4⟩ := hm3.row_at (by omega)
  have HM := hid hm3
  clear hm2 hm3 hm4 hnn r1 r4
  go_wp2_with fail
  go_ret
  exact ⟨g2, c', rfl, HM.out⟩

/-- the log's error, ended -/
theorem ends_any (wb w : World) (R : HP) (g p gl : Nat) (er : Value) (h : Mem wb w (logB g p er gl * R)) (s : ByteArray) (c : Int) :
    Calls Try.prog 55 #[.pointer (some ⟨gl, 0, none⟩), .string s, .int .i64 c] w fun e w' => ∃ v, e = .returned v ∧ Mem wb w' (faultB s 0 c v * (logB g p v gl * R)) := by
  have HFA := hid (fault_any wb w _ h s 0 c)
  clear h
  go_enter Try.func55, Try.ntmps55
  go_wp2_with fail
  refine HFA.out.mono ?_
  rintro e w3 ⟨gf, rfl, hm3⟩
  dsimp only
  have hm4 := hm3.p1
  unfold logB at hm4
  have q2 := hm4.cell 2
  have f2 := hm4.frozen 2
  simp only [List.getElem?_cons_zero, List.getElem?_cons_succ] at q2
  have hm5 := hm4.setCell 2 (.iface 75 (.pointer (some ⟨gf, 0, none⟩)))
  have HM := hid hm5
  clear hm3 hm4 hm5
  go_wp2_with fail
  go_ret
  refine ⟨_, rfl, Mem.faultB.2 ⟨gf, rfl, ?_⟩⟩
  unfold logB
  exact HM.out.p1
end Go.Proofs.Ytpaebopmppbjbaa
