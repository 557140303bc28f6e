/- The walk of page.made: a page of its parts. -/
import Derived.Test.YtipmfbpomhcfcaaDoorPg2
set_option linter.unusedVariables false
set_option linter.unusedSimpArgs false
namespace Go.Le
open Go
theorem set_two {α : Type} (n : Nat) (v a b : α) : ((List.replicate (n + 2) v).toArray.setIfInBounds 0 a).setIfInBounds 1 b = (a :: b :: List.replicate n v).toArray := by
  simp [List.replicate_succ]
theorem byts_replicate (n : Nat) : byts (List.replicate n 0) = List.replicate n (Value.int .u8 0) := by simp [byts, byt]
theorem made_head (kind : UInt8) : ((List.replicate 1024 (Value.int .u8 0)).toArray.setIfInBounds 0 (.int .u8 214)).setIfInBounds 1 (.int .u8 (kind.toNat : Int)) = (byts ([0xd6, kind] ++ List.replicate 1022 0)).toArray := by
  rw [byts_append, byts_replicate]
  exact set_two 1022 _ _ _
theorem splice_byts (cur cs : List UInt8) (off : Nat) : splice (byts cur) off (byts cs) = byts (splice cur off cs) := by
  simp [splice, byts]
theorem made_steps (kind : UInt8) (n count : Nat) (c : List UInt8) (hc : c.length ≤ 1008) :
    splice (splice (splice (splice ([0xd6, kind] ++ List.replicate 1022 0) 2 (be2 n)) 4 (be2 count)) 6 (be2 c.length)) 16 c = bare kind n count c := by
  have e0 : ([0xd6, kind] ++ List.replicate 1022 0 : List UInt8) = [0xd6, kind] ++ ([0, 0] ++ ([0, 0] ++ ([0, 0] ++ (List.replicate 4 0 ++ (List.replicate 4 0 ++ (List.replicate c.length 0 ++ List.replicate (1008 - c.length) 0)))))) := by
    have e1 : (List.replicate c.length 0 ++ List.replicate (1008 - c.length) 0 : List UInt8) = List.replicate 1008 0 := by
      rw [List.replicate_append_replicate]; congr 1; omega
    rw [e1]
    exact congrArg (fun x => [0xd6, kind] ++ x) (List.replicate_append_replicate (n := 14) (m := 1008) (a := (0 : UInt8))).symm
  rw [e0, splice_mid [0xd6, kind] [0, 0] _ (be2 n) 2 rfl rfl]
  rw [show [0xd6, kind] ++ (be2 n ++ ([0, 0] ++ ([0, 0] ++ (List.replicate 4 0 ++ (List.replicate 4 0 ++ (List.replicate c.length 0 ++ List.replicate (1008 - c.length) 0)))))) = ([0xd6, kind] ++ be2 n) ++ ([0, 0] ++ ([0, 0] ++ (List.replicate 4 0 ++ (List.replicate 4 0 ++ (List.replicate c.length 0 ++ List.replicate (1008 - c.length) 0))))) from by simp]
  rw [splice_mid ([0xd6, kind] ++ be2 n) [0, 0] _ (be2 count) 4 rfl rfl]
  rw [show ([0xd6, kind] ++ be2 n) ++ (be2 count ++ ([0, 0] ++ (List.replicate 4 0 ++ (List.replicate 4 0 ++ (List.replicate c.length 0 ++ List.replicate (1008 - c.length) 0))))) = ([0xd6, kind] ++ be2 n ++ be2 count) ++ ([0, 0] ++ (List.replicate 4 0 ++ (List.replicate 4 0 ++ (List.replicate c.length 0 ++ List.replicate (1008 - c.length) 0)))) from by simp]
  rw [splice_mid ([0xd6, kind] ++ be2 n ++ be2 count) [0, 0] _ (be2 c.length) 6 rfl rfl]
  rw [show ([0xd6, kind] ++ be2 n ++ be2 count) ++ (be2 c.length ++ (List.replicate 4 0 ++ (List.replicate 4 0 ++ (List.replicate c.length 0 ++ List.replicate (1008 - c.length) 0)))) = ([0xd6, kind] ++ be2 n ++ be2 count ++ be2 c.length ++ List.replicate 4 0 ++ List.replicate 4 0) ++ (List.replicate c.length 0 ++ List.replicate (1008 - c.length) 0) from by simp]
  rw [splice_mid ([0xd6, kind] ++ be2 n ++ be2 count ++ be2 c.length ++ List.replicate 4 0 ++ List.replicate 4 0) (List.replicate c.length 0) _ c 16 (by simp [be2]) (by simp)]
  simp [bare]
theorem made_last (kind : UInt8) (n count : Nat) (c : List UInt8) : splice (bare kind n count c) 12 (pgSum (bare kind n count c)) = pgMade kind n count c := by
  rw [pgSum, sumIn_bare]
  have e : ∀ x, bare kind n count c = x → splice x 12 (be4 (crc (bare kind n count c)).toNat) = pgMade kind n count c := by
    intro x hx
    rw [← hx]
    conv => lhs; arg 1; rw [bare]
    rw [show [0xd6, kind] ++ (be2 n ++ (be2 count ++ (be2 c.length ++ (List.replicate 4 0 ++ (List.replicate 4 0 ++ (c ++ List.replicate (1008 - c.length) 0)))))) = ([0xd6, kind] ++ be2 n ++ be2 count ++ be2 c.length ++ List.replicate 4 0) ++ (List.replicate 4 0 ++ (c ++ List.replicate (1008 - c.length) 0)) from by simp]
    rw [splice_mid _ (List.replicate 4 0) _ _ 12 (by simp [be2]) (by simp [be4, be2])]
    simp [pgMade]
  exact e _ rfl
end Go.Le
namespace Go.Proofs.YtipmfbpomhcfcaaDoor
open Go Go.RowKit Go.Le
theorem infoU8 : (Tryd.prog.info? 5).map (fun i => (i.zero, i.size, i.bytes)) = some (some (.int .u8 0), 1, 1) := by kernel_rfl
theorem sizeU8 : (Tryd.prog.info? 5).map (·.size) = some 1 := by kernel_rfl

set_option maxHeartbeats 1000000 in
theorem made_any (kv : Int) (kind : UInt8) (hkv : kv = (kind.toNat : Int)) (n count : Int) (hn0 : 0 ≤ n) (hn1 : n ≤ 65535) (hc0 : 0 ≤ count) (hc1 : count ≤ 65535) (a : Option Addr) (m c : Nat) (l : List UInt8) (w : World) (ht : Tabled w) (h : Sl w a m c (byts l)) (hm : m ≤ 1008) :
    Calls Tryd.prog 26 #[.int .u8 kv, .int .i64 n, .int .i64 count, .slice a m c] w fun e w' => e = .returned (.slice (some ⟨w.heap.size, 0, none⟩) 1024 1024) ∧ Blk w' w.heap.size 5 (byts (pgMade kind n.toNat count.toNat l)) ∧ Fr w.heap.size [] w w' ∧ w.heap.size < w'.heap.size := by
  obtain ⟨Z, hZ⟩ : ∃ Z, Z = (List.replicate 1024 (Value.int .u8 0)).toArray := ⟨_, rfl⟩
  have hmk : ∀ W : World, (Instr.makeSlice 22 (.int .i64 1024) (.int .i64 1024)).run Tryd.prog W = .ok (.slice (some ⟨W.heap.size, 0, none⟩) 1024 1024) (W.alloc (.cells Z 5)) :=
    fun W => by rw [hZ]; exact run_make_bytes (P := Tryd.prog) 22 5 Tryd.underlying22 infoU8 .i64 .i64 1024 (by omega) (by omega) W
  have hz0 : Z[0]? = some (.int .u8 0) := by rw [hZ, List.getElem?_toArray, List.getElem?_replicate, if_pos (by omega)]
  have hz1 : Z[1]? = some (.int .u8 0) := by rw [hZ, List.getElem?_toArray, List.getElem?_replicate, if_pos (by omega)]
  have hhead : Hid ((Z.setIfInBounds 0 (.int .u8 214)).setIfInBounds 1 (.int .u8 kv) = (byts ([0xd6, kind] ++ List.replicate 1022 0)).toArray) := by
    show _ = _
    rw [hZ, hkv]; exact made_head kind
  clear hZ
  have hle := h.le
  have hcap := h.cap
  have hlen := h.len
  rw [byts_length] at hlen
  have HL := hid hlen
  clear hlen
  have HK := hid hkv
  clear hkv
  have HT := hid ht
  clear ht
  go_enter Tryd.func26, Tryd.ntmps26
  go_wp2
  obtain ⟨w1, hw1⟩ : ∃ w1, w1 = w.alloc (.cells ((Z.setIfInBounds 0 (.int .u8 214)).setIfInBounds 1 (.int .u8 kv)) 5) := ⟨_, rfl⟩
  rw [← hw1]
  have hb1 : Blk w1 w.heap.size 5 (byts ([0xd6, kind] ++ List.replicate 1022 0)) := by
    rw [hw1, hhead.out]; exact Blk.new' _ _ rfl
  have hf1 : Fr w.heap.size [] w w1 := by rw [hw1]; exact (by repeat (first | exact Fr.refl _ _ _ | assumption | apply Fr.drew | (refine Fr.drewN ?_ _) | (refine Fr.alloc ?_ (by first | omega | (simp; done) | (simp; omega)) _) | (refine Fr.setCell ?_ (by first | (left; simp; done) | (right; simp; done) | (right; simp; omega)) _)))
  have hs1 : w.heap.size < w1.heap.size := hb1.lt
  clear hw1 hz0 hz1 hmk hhead
  obtain ⟨cur1, hcur1⟩ : ∃ x, x = ([0xd6, kind] ++ List.replicate 1022 0 : List UInt8) := ⟨_, rfl⟩
  rw [← hcur1] at hb1
  have HC1 := hid hcur1
  have hl1 : cur1.length = 1024 := by rw [hcur1, List.length_append, List.length_replicate]; rfl
  clear hcur1
  go_wp2
  go_region_held3 (fun _ => True) (trivial) (first | (go_at_call 31; refine (two_any _ _ (by omega) (by omega)).mono ?_; rintro e w' ⟨rfl, rfl⟩) | ((with_reducible show (if Region.wanted (Oper.mk (some 20) _ _ _ _ _) _ = true then _ else _)); refine step_cpy (by rfl) (.tmp 17) (.tmp 19) 22 22 (by rfl) 5 Tryd.underlying22 sizeU8 (by rfl) (by rfl) w.heap.size 2 2 (by rfl) (cur := byts cur1) (by repeat (first | assumption | apply Blk.drew | exact Blk.new' _ _ (by first | rfl | (simp; done) | (simp; omega)) | apply Blk.alloc)) (fun _ => by rfl) (by rw [byts_length]; omega) (Blk.sl_all (cs := byts (be2 n.toNat)) (by repeat (first | assumption | apply Blk.drew | exact Blk.new' _ _ (by first | rfl | (simp; done) | (simp; omega)) | apply Blk.alloc)) 2 rfl (by omega)) (byts_oneCell _) ?_; intro w2 hb' hf' hs'))
  have hf2 : Fr w.heap.size [] w w2 := Fr.call' (k := hf') (h := (by repeat (first | exact Fr.refl _ _ _ | assumption | apply Fr.drew | (refine Fr.drewN ?_ _) | (refine Fr.alloc ?_ (by first | omega | (simp; done) | (simp; omega)) _) | (refine Fr.setCell ?_ (by first | (left; simp; done) | (right; simp; done) | (right; simp; omega)) _)))) (hS := by simp <;> omega)
  obtain ⟨cur2, hcur⟩ : ∃ x, x = splice cur1 2 (be2 n.toNat) := ⟨_, rfl⟩
  have hb2 : Blk w2 w.heap.size 5 (byts cur2) := by
    rw [List.take_of_length_le (by rw [byts_length]; exact Nat.le_refl _), splice_byts, ← hcur] at hb'
    exact hb'
  have hl2 : cur2.length = 1024 := by rw [hcur, length_splice _ _ _ (by rw [hl1]; exact (by decide : 2 + 2 ≤ 1024))]; exact hl1
  have HC2 := hid hcur
  have hs2 : w.heap.size < w2.heap.size := hb2.lt
  clear hcur hb' hf' hs' hb1 hs1 hf1
  go_wp2
  go_region_held3 (fun _ => True) (trivial) (first | (go_at_call 31; refine (two_any _ _ (by omega) (by omega)).mono ?_; rintro e w' ⟨rfl, rfl⟩) | ((with_reducible show (if Region.wanted (Oper.mk (some 25) _ _ _ _ _) _ = true then _ else _)); refine step_cpy (by rfl) (.tmp 22) (.tmp 24) 22 22 (by rfl) 5 Tryd.underlying22 sizeU8 (by rfl) (by rfl) w.heap.size 4 2 (by rfl) (cur := byts cur2) (by repeat (first | assumption | apply Blk.drew | exact Blk.new' _ _ (by first | rfl | (simp; done) | (simp; omega)) | apply Blk.alloc)) (fun _ => by rfl) (by rw [byts_length]; omega) (Blk.sl_all (cs := byts (be2 count.toNat)) (by repeat (first | assumption | apply Blk.drew | exact Blk.new' _ _ (by first | rfl | (simp; done) | (simp; omega)) | apply Blk.alloc)) 2 rfl (by omega)) (byts_oneCell _) ?_; intro w3 hb' hf' hs'))
  have hf3 : Fr w.heap.size [] w w3 := Fr.call' (k := hf') (h := (by repeat (first | exact Fr.refl _ _ _ | assumption | apply Fr.drew | (refine Fr.drewN ?_ _) | (refine Fr.alloc ?_ (by first | omega | (simp; done) | (simp; omega)) _) | (refine Fr.setCell ?_ (by first | (left; simp; done) | (right; simp; done) | (right; simp; omega)) _)))) (hS := by simp <;> omega)
  obtain ⟨cur3, hcur⟩ : ∃ x, x = splice cur2 4 (be2 count.toNat) := ⟨_, rfl⟩
  have hb3 : Blk w3 w.heap.size 5 (byts cur3) := by
    rw [List.take_of_length_le (by rw [byts_length]; exact Nat.le_refl _), splice_byts, ← hcur] at hb'
    exact hb'
  have hl3 : cur3.length = 1024 := by rw [hcur, length_splice _ _ _ (by rw [hl2]; exact (by decide : 4 + 2 ≤ 1024))]; exact hl2
  have HC3 := hid hcur
  have hs3 : w.heap.size < w3.heap.size := hb3.lt
  clear hcur hb' hf' hs' hb2 hs2 hf2
  go_wp2
  go_region_held3 (fun _ => True) (trivial) (first | (go_at_call 31; refine (two_any _ _ (by omega) (by omega)).mono ?_; rintro e w' ⟨rfl, rfl⟩) | ((with_reducible show (if Region.wanted (Oper.mk (some 31) _ _ _ _ _) _ = true then _ else _)); refine step_cpy (by rfl) (.tmp 27) (.tmp 30) 22 22 (by rfl) 5 Tryd.underlying22 sizeU8 (by rfl) (by rfl) w.heap.size 6 2 (by rfl) (cur := byts cur3) (by repeat (first | assumption | apply Blk.drew | exact Blk.new' _ _ (by first | rfl | (simp; done) | (simp; omega)) | apply Blk.alloc)) (fun _ => by rfl) (by rw [byts_length]; omega) (Blk.sl_all (cs := byts (be2 (m : Int).toNat)) (by repeat (first | assumption | apply Blk.drew | exact Blk.new' _ _ (by first | rfl | (simp; done) | (simp; omega)) | apply Blk.alloc)) 2 rfl (by omega)) (byts_oneCell _) ?_; intro w4 hb' hf' hs'))
  have hf4 : Fr w.heap.size [] w w4 := Fr.call' (k := hf') (h := (by repeat (first | exact Fr.refl _ _ _ | assumption | apply Fr.drew | (refine Fr.drewN ?_ _) | (refine Fr.alloc ?_ (by first | omega | (simp; done) | (simp; omega)) _) | (refine Fr.setCell ?_ (by first | (left; simp; done) | (right; simp; done) | (right; simp; omega)) _)))) (hS := by simp <;> omega)
  obtain ⟨cur4, hcur⟩ : ∃ x, x = splice cur3 6 (be2 (m : Int).toNat) := ⟨_, rfl⟩
  have hb4 : Blk w4 w.heap.size 5 (byts cur4) := by
    rw [List.take_of_length_le (by rw [byts_length]; exact Nat.le_refl _), splice_byts, ← hcur] at hb'
    exact hb'
  have hl4 : cur4.length = 1024 := by rw [hcur, length_splice _ _ _ (by rw [hl3]; exact (by decide : 6 + 2 ≤ 1024))]; exact hl3
  have HC4 := hid hcur
  have hs4 : w.heap.size < w4.heap.size := hb4.lt
  clear hcur hb' hf' hs' hb3 hs3 hf3
  have h4 := h.ext hf4
  go_wp2_with ((with_reducible show wpList _ _ _ (Oper.mk (some 35) _ _ _ _ _ :: _) _ _); go_loud (refine wpList_cpy (by rfl) (.tmp 33) (.tmp 34) 22 22 (by rfl) 5 Tryd.underlying22 sizeU8 (by rfl) (by rfl) w.heap.size 16 m (by exact (Nat.min_eq_left (by omega)).symm) (cur := byts cur4) hb4 (fun _ => by rfl) (by rw [byts_length]; omega) h4 (byts_oneCell _) ?_))
  intro w5 hb' hf' hs'
  have hf5 : Fr w.heap.size [] w w5 := Fr.call' (k := hf') (h := (by repeat (first | exact Fr.refl _ _ _ | assumption | apply Fr.drew | (refine Fr.drewN ?_ _) | (refine Fr.alloc ?_ (by first | omega | (simp; done) | (simp; omega)) _) | (refine Fr.setCell ?_ (by first | (left; simp; done) | (right; simp; done) | (right; simp; omega)) _)))) (hS := by simp <;> omega)
  obtain ⟨cur5, hcur⟩ : ∃ x, x = splice cur4 16 l := ⟨_, rfl⟩
  have hb5 : Blk w5 w.heap.size 5 (byts cur5) := by
    rw [List.take_of_length_le (by rw [byts_length, HL.out]; exact Nat.le_refl _), splice_byts, ← hcur] at hb'
    exact hb'
  have hl5 : cur5.length = 1024 := by rw [hcur, length_splice _ _ _ (by rw [hl4, HL.out]; omega)]; exact hl4
  have HC5 : Hid (cur5 = bare kind n.toNat count.toNat l) := by
    show _ = _
    rw [hcur, HC4.out, HC3.out, HC2.out, HC1.out, Int.toNat_natCast, ← HL.out]
    exact made_steps kind n.toNat count.toNat l (by rw [HL.out]; omega)
  have hs5 : w.heap.size < w5.heap.size := hb5.lt
  have ht5 : Hid (Tabled w5) := fun i hi => hf5.cell_ext (HT.out i hi)
  have hS5 := hb5.sl_all 1024 (by rw [byts_length]; exact hl5) (by omega)
  clear hcur hb' hf' hs' hb4 hs4 hf4 h4 HC4 HC3 HC2 HC1 h HT
  go_wp2
  go_region_held3 (fun _ => True) (trivial) (first | (go_at_call 39; refine (psum_any _ _ _ cur5 _ (ht5.out.ext (by repeat (first | exact Fr.refl _ _ _ | assumption | apply Fr.drew | (refine Fr.drewN ?_ _) | (refine Fr.alloc ?_ (by first | omega | (simp; done) | (simp; omega)) _) | (refine Fr.setCell ?_ (by first | (left; simp; done) | (right; simp; done) | (right; simp; omega)) _)))) (hS5.ext (by repeat (first | exact Fr.refl _ _ _ | assumption | apply Fr.drew | (refine Fr.drewN ?_ _) | (refine Fr.alloc ?_ (by first | omega | (simp; done) | (simp; omega)) _) | (refine Fr.setCell ?_ (by first | (left; simp; done) | (right; simp; done) | (right; simp; omega)) _))))).mono ?_; rintro e e' ⟨g, rfl, hg1, hg2, hg3⟩) | ((with_reducible show (if Region.wanted (Oper.mk (some 40) _ _ _ _ _) _ = true then _ else _)); refine step_cpy (by rfl) (.tmp 37) (.tmp 39) 22 22 (by rfl) 5 Tryd.underlying22 sizeU8 (by rfl) (by rfl) w.heap.size 12 4 (by rfl) (cur := byts cur5) ((hb5.ext (by repeat (first | exact Fr.refl _ _ _ | assumption | apply Fr.drew | (refine Fr.drewN ?_ _) | (refine Fr.alloc ?_ (by first | omega | (simp; done) | (simp; omega)) _) | (refine Fr.setCell ?_ (by first | (left; simp; done) | (right; simp; done) | (right; simp; omega)) _)))).ext hg3) (fun _ => by rfl) (by rw [byts_length]; omega) (Blk.sl_all hg2 4 (by rw [byts_length]; rfl) (by omega)) (byts_oneCell _) ?_; intro w6 hb' hf' hs'))
  go_wp2
  go_ret
  rw [List.take_of_length_le (by rw [byts_length]; exact Nat.le_refl _), splice_byts, HC5.out, made_last] at hb'
  have hf6 : Fr w.heap.size [] w e' := Fr.call' (k := hg3) (h := (by repeat (first | exact Fr.refl _ _ _ | assumption | apply Fr.drew | (refine Fr.drewN ?_ _) | (refine Fr.alloc ?_ (by first | omega | (simp; done) | (simp; omega)) _) | (refine Fr.setCell ?_ (by first | (left; simp; done) | (right; simp; done) | (right; simp; omega)) _)))) (hS := by simp <;> omega)
  have hf7 : Fr w.heap.size [] w w6 := Fr.call' (k := hf') (h := (by repeat (first | exact Fr.refl _ _ _ | assumption | apply Fr.drew | (refine Fr.drewN ?_ _) | (refine Fr.alloc ?_ (by first | omega | (simp; done) | (simp; omega)) _) | (refine Fr.setCell ?_ (by first | (left; simp; done) | (right; simp; done) | (right; simp; omega)) _)))) (hS := by simp <;> omega)
  exact ⟨rfl, hb', hf7, hb'.lt⟩
end Go.Proofs.YtipmfbpomhcfcaaDoor
