/- slices.SortFunc of pages, by the shelf's contract: a row of pages becomes one of the same pages, sorted. -/
import Derived.Shelf.SlSortCmp.WholeK
import Derived.Test.YtpaebopmppbjbaaGreatDoorSrtL
import Derived.Test.YtpaebopmppbjbaaGreatDoorWal16M
set_option linter.unusedVariables false
set_option linter.unusedSimpArgs false
namespace Go.Proofs.YtpaebopmppbjbaaGreatDoor
open Go Go.RowKit Go.Le Go.Shelf Go.Lib Go.Sort
/-- a page, its number not too large -/
abbrev Sp := { z : Pz // z.1.1 < 1000 }
instance : Inhabited Sp := ⟨⟨((0, []), (none, 0)), by show 0 < 1000; omega⟩⟩
def encSp (x : Sp) : List Value := [.int .i64 (x.1.1.1 : Int), .slice x.1.2.1 x.1.1.2.length x.1.2.2]
def cfSp (x y : Sp) : Int := (x.1.1.1 : Int) - (y.1.1.1 : Int)
theorem swoSp : SWO (ltOf cfSp) where
  irrefl x := by simp [ltOf, cfSp]
  trans x y z h1 h2 := by
    unfold ltOf cfSp at *
    rw [decide_eq_true_iff] at *
    omega
  ntrans x y z h1 h2 := by
    unfold ltOf cfSp at *
    rw [decide_eq_false_iff_not] at *
    omega
theorem cmpSp (x y : Sp) (W : World) : Calls Tryz.prog 33 #[.agg (encSp x).toArray, .agg (encSp y).toArray] W fun e w' => e = .returned (.int .i64 (cfSp x y)) ∧ ∃ q os', w' = grow (W.drewN q) os' := by
  have hx := x.2
  have hy := y.2
  unfold encSp cfSp
  generalize x.1.1.1 = a at *
  generalize y.1.1.1 = b at *
  generalize x.1.2.1 = xa
  generalize y.1.2.1 = ya
  generalize x.1.1.2.length = xn
  generalize y.1.1.2.length = yn
  generalize x.1.2.2 = xc
  generalize y.1.2.2 = yc
  have hw : IntKind.i64.wrap ((a : Int) - (b : Int)) = (a : Int) - (b : Int) := IntWalk.i64_in _ (by omega)
  go_enter Tryz.func33, Tryz.ntmps33
  go_wp2
  go_ret
  exact ⟨rfl, 0, _, by rw [alloc_eq_grow, alloc_eq_grow, grow_grow]; rfl⟩
theorem Fr.sortW {α : Type} [Inhabited α] (enc : α → List Value) (k : Nat) (w : World) (b m : Nat) (d : Array α) (os : Array Obj) : Fr w.heap.size [b] w (sortWorldK enc k w b 0 m d os) := by
  refine ⟨rfl, rfl, rfl, size_sortWorldK_c enc k w b 0 m d os, fun i hi hb => ?_⟩
  have hne : b ≠ i := fun e => hb (by simp [e])
  show ((w.heap.modify b _) ++ os)[i]? = _
  rw [Array.getElem?_append_left (by simpa using hi), Array.getElem?_modify, if_neg hne]
theorem flatSp (l : List Sp) : (flatK encSp 2 l.toArray).toList = pzCells (l.map (·.1)) := by
  apply List.ext_getElem?
  intro t
  have hs : (flatK encSp 2 l.toArray).size = l.length * 2 := by simp
  by_cases ht : t < l.length * 2
  · have h1 := get_flatK encSp 2 l.toArray t (by simpa using ht)
    have h2 : (flatK encSp 2 l.toArray).toList[t]? = some ((flatK encSp 2 l.toArray)[t]!) := by
      rw [Array.getElem?_toList, Array.getElem?_eq_getElem (by rw [hs]; exact ht), getElem!_pos _ t (by rw [hs]; exact ht)]
    rw [h2, h1]
    have hk : t / 2 < l.length := by omega
    have h3 := pgCells_at (l.map (·.1)) (t / 2) (l[t / 2].1) (by rw [List.getElem?_map, List.getElem?_eq_getElem hk]; rfl)
    have e : l.toArray[t / 2]! = l[t / 2] := by simp [getElem!_pos, hk]
    rw [e]
    rcases Nat.mod_two_eq_zero_or_one t with hm | hm
    · have e2 : t / 2 * 2 = t := by omega
      rw [e2] at h3
      rw [hm, h3.1]; rfl
    · have e2 : t / 2 * 2 + 1 = t := by omega
      rw [e2] at h3
      rw [hm, h3.2]; rfl
  · rw [List.getElem?_eq_none (by rw [Array.length_toList, hs]; omega), List.getElem?_eq_none (by rw [pgCells_length, List.length_map]; omega)]
theorem putSp (l l' : List Sp) (rest : List Value) (hl : l'.length = l.length) : putCells id 0 (flatK encSp 2 l'.toArray) (pzCells (l.map (·.1)) ++ rest).toArray = (pzCells (l'.map (·.1)) ++ rest).toArray := by
  apply Array.ext_getElem?
  intro t
  unfold putCells
  rw [Array.getElem?_mapIdx]
  have hs : (flatK encSp 2 l'.toArray).size = l'.length * 2 := by simp
  have ha : (pzCells (l.map (·.1))).length = l.length * 2 := by rw [pgCells_length, List.length_map]
  have hb : (pzCells (l'.map (·.1))).length = l'.length * 2 := by rw [pgCells_length, List.length_map]
  simp only [List.getElem?_toArray]
  by_cases ht : t < l'.length * 2
  · rw [List.getElem?_append_left (by omega), List.getElem?_append_left (by omega), List.getElem?_eq_getElem (by omega), Option.map_some, if_pos ⟨Nat.zero_le _, by rw [hs]; omega⟩, ← flatSp, Nat.sub_zero, Array.getElem?_toList, Array.getElem?_eq_getElem (by rw [hs]; exact ht), getElem!_pos _ t (by rw [hs]; exact ht)]
    rfl
  · rw [List.getElem?_append_right (by omega), List.getElem?_append_right (by omega), ha, hb, hl]
    cases rest[t - l.length * 2]? with
    | none => rfl
    | some v => rw [Option.map_some, if_neg (by rw [hs]; omega)]
/-- the sorted list -/
noncomputable def sortSp (l : List Sp) : List Sp := (pdq (ltOf cfSp) l.toArray 0 l.length (Lib.bitLen l.length) true true).toList
theorem sortSp_perm (l : List Sp) : (sortSp l).Perm l := by
  have h := (pdq_sorts (ltOf cfSp) swoSp l.toArray 0 l.length (Lib.bitLen l.length) true true (Nat.zero_le _) (by simp) (Or.inl rfl)).1
  obtain ⟨h1, -, h3⟩ := h
  have e1 : (pdq (ltOf cfSp) l.toArray 0 l.length (Lib.bitLen l.length) true true).extract 0 l.length = pdq (ltOf cfSp) l.toArray 0 l.length (Lib.bitLen l.length) true true := by
    have hs : (pdq (ltOf cfSp) l.toArray 0 l.length (Lib.bitLen l.length) true true).size = l.length := by rw [h1]; simp
    generalize pdq (ltOf cfSp) l.toArray 0 l.length (Lib.bitLen l.length) true true = q at hs
    rw [← hs]
    exact Array.extract_size
  have e2 : l.toArray.extract 0 l.length = l.toArray := by simp
  rw [e1, e2] at h3
  exact h3
theorem sort_any (wb w : World) (R : HP) (b c : Nat) (l : List Sp) (hl : l.length ≤ 1000) (h0 : 0 < l.length) (h : Mem wb w (row 52 2 (some ⟨b, 0, none⟩) l.length c (pzCells (l.map (·.1))) * R)) :
    Calls Tryz.prog 32 #[.slice (some ⟨b, 0, none⟩) l.length c, .func (.func 33) #[] #[]] w fun e w' => e = .returned (.tuple #[]) ∧ Mem wb w' (row 52 2 (some ⟨b, 0, none⟩) l.length c (pzCells ((sortSp l).map (·.1))) * R) := by
  obtain ⟨rest, -, -, l1, l2, l3, l4, hm⟩ := Mem.row_some.1 h
  have hb := hm.blk.1
  have hH : HoldsK encSp 2 w b 0 l.toArray := by
    intro j hj
    have hj2 : j < (pzCells (l.map (·.1))).length := by rw [pgCells_length, List.length_map]; simpa using hj
    rw [Nat.zero_add]
    refine ⟨?_, hb.frozen j⟩
    rw [hb.cell j, List.getElem?_append_left hj2, ← flatSp, Array.getElem?_toList, Array.getElem?_eq_getElem hj, getElem!_pos _ j hj]
    rfl
  have eg : ∀ args w, (callFunc 33 args).run Tryz.prog w = .ok (.enter 33 args) w := Tryz.call33
  have hcon := AnyQ.slices_SortFunc_eq Tryz.sortPw 2 Tryz.isAgg52 Tryz.sizeOf52 encSp (fun _ => rfl) (fun x v hv => by simp [encSp] at hv; rcases hv with rfl | rfl <;> rfl) cfSp swoSp 33 #[] b 0 c l.toArray w eg (fun m os dk _ x y => cmpSp x y _) hH hb.lt (by simp; omega)
  have hsz : l.toArray.size = l.length := by simp
  rw [hsz] at hcon
  refine hcon.mono ?_
  rintro e w' ⟨rfl, n, os, rfl⟩
  refine ⟨rfl, ?_⟩
  have hp := sortSp_perm l
  have hfr := Fr.sortW encSp 2 w b n (sortSp l).toArray os
  have e0 : (sortSp l).toArray = pdq (ltOf cfSp) l.toArray 0 l.length (Lib.bitLen l.length) true true := by unfold sortSp; simp
  rw [← e0]
  have hg : Blk (sortWorldK encSp 2 w b 0 n (sortSp l).toArray os) b 52 (pzCells ((sortSp l).map (·.1)) ++ rest) := by
    show _ = _
    show ((w.heap.modify b _) ++ os)[b]? = _
    rw [Array.getElem?_append_left (by simpa using hb.lt), Array.getElem?_modify, if_pos rfl, hb.heap]
    show some (Obj.cells (putCells id 0 (flatK encSp 2 (sortSp l).toArray) _) _ _) = _
    rw [putSp _ _ _ hp.length_eq]
  exact Mem.row_some.2 ⟨rest, rfl, rfl, by rw [pgCells_length, List.length_map, hp.length_eq], l2, l3, by rw [pgCells_length, List.length_map, hp.length_eq]; rw [pgCells_length, List.length_map] at l4; exact l4, hm.fr1 hfr hg⟩
end Go.Proofs.YtpaebopmppbjbaaGreatDoor
