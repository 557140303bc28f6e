/- The laws' born: a device of zeros, and the book of what stands on it. -/
import Derived.Test.YtpdppacafkdgdaaLw2
set_option linter.unusedVariables false
set_option linter.unusedSimpArgs false
namespace Go.Le
open Go Go.RowKit
structure Life where
  d : Dev
  image : List (List UInt8)
  list : List (Nat × List UInt8)
def strs (l : List (List UInt8)) : List Value := l.map fun b => .string ⟨b.toArray⟩
def z512 : List UInt8 := List.replicate 512 0
/-- a life in memory -/
def lifeAt (t : Ty) (lt st : TypeId) (g : Nat) (V : Life) : HP :=
  ex fun x : (Nat × (Option Addr × Nat)) × (Option Addr × Nat) => pts g lt [.pointer (some ⟨x.1.1, 0, none⟩), .slice x.1.2.1 V.image.length x.1.2.2, .slice x.2.1 V.list.length x.2.2] *
    (row st 1 x.1.2.1 V.image.length x.1.2.2 (strs V.image) * (pends t.u8 t.pe x.2.1 x.2.2 V.list * devAt t x.1.1 V.d))
theorem Mem.lifeAt {wb w : World} {R : HP} {t : Ty} {lt st : TypeId} {g : Nat} {V : Life} : Mem wb w (Le.lifeAt t lt st g V * R) ↔ ∃ gd va vc la lc, Mem wb w (pts g lt [.pointer (some ⟨gd, 0, none⟩), .slice va V.image.length vc, .slice la V.list.length lc] *
    (row st 1 va V.image.length vc (strs V.image) * (Le.pends t.u8 t.pe la lc V.list * (Le.devAt t gd V.d * R)))) := by
  unfold Le.lifeAt
  rw [Mem.exl]
  constructor
  · rintro ⟨⟨⟨gd, va, vc⟩, la, lc⟩, h⟩
    exact ⟨gd, va, vc, la, lc, by rw [sep_assoc, sep_assoc, sep_assoc] at h; exact h⟩
  · rintro ⟨gd, va, vc, la, lc, h⟩
    exact ⟨⟨⟨gd, va, vc⟩, la, lc⟩, by rw [sep_assoc, sep_assoc, sep_assoc]; exact h⟩
def newLife : Life := ⟨Dev.fresh (zrs (4 * 512)), [z512, z512, z512, z512], []⟩
end Go.Le
namespace Go.Proofs.Ytpdppacafkdgdaa
open Go Go.RowKit Go.Le
def lifeH (g : Nat) (V : Life) : HP := lifeAt T8 32 9 g V
theorem strInfo : (Try.prog.info? 9).map (fun i => (i.zero, i.size, i.bytes)) = some (some (.string ⟨#[]⟩), 1, 16) := by kernel_rfl

set_option maxRecDepth 20000 in
set_option maxHeartbeats 1000000 in
theorem born_any (wb w : World) (R : HP) (h : Mem wb w R) :
    Calls Try.prog 11 #[] w fun e w' => ∃ g, e = .returned (.tuple #[.pointer (some ⟨g, 0, none⟩), .bool true]) ∧ Mem wb w' (lifeH g newLife * R) := by
  have H := hid h
  clear h
  obtain ⟨Z, hZ⟩ : ∃ Z, Z = List.replicate 512 (Value.int .u8 0) := ⟨_, rfl⟩
  have hmk := run_make_bytes (P := Try.prog) 34 5 Try.underlying34 u8info .i64 .i64 512 (by omega) (by omega)
  have e5 : Int.toNat 512 = 512 := rfl
  rw [e5, ← hZ] at hmk
  have HZl : Hid (Z.length = 512) := by show _ = _; rw [hZ, List.length_replicate]
  have HZb : Hid (Z = byts z512) := by show _ = _; rw [hZ]; exact byts_zeros 512
  obtain ⟨pi, hi, hzz, hsz, hby⟩ := info_parts strInfo
  have JI := hid hi
  have JZ := hid hzz
  have JS := hid hsz
  have JB := hid hby
  clear hi hzz hsz hby e5 hZ
  go_enter Try.func11, Try.ntmps11
  go_wp2_with fail
  refine (New_any wb _ R H.out 4 (by omega) (by omega)).mono ?_
  rintro e w1 ⟨gd, rfl, hm1⟩
  dsimp only
  have hm2 := hid (hm1.alloc [.pointer (some ⟨gd, 0, none⟩), .slice none 0 0, .slice none 0 0] 32)
  clear hm1
  go_wp2_with fail
  go_loopw [5] (fun i wr => ∃ (k : Nat) (va : Option Addr) (vc : Nat), k ≤ 4 ∧ i = .int .i64 k ∧
    Mem wb wr (pts w1.heap.size 32 [.pointer (some ⟨gd, 0, none⟩), .slice va k vc, .slice none 0 0] * (row 9 1 va k vc (strs (List.replicate k z512)) * (devAt T8 gd (Dev.fresh (zrs (4 * 512))) * R)))) (fun i _ => 4 - (intOf i).toNat)
  case atStart => exact ⟨0, none, 0, by omega, rfl, (Mem.row_none.2 ⟨rfl, rfl, rfl, hm2.out⟩).p1⟩
  case round =>
    obtain ⟨k, va, vc, hk, rfl, hm⟩ := hrel
    by_cases hlt : k < 4
    · have c1 := hm.cell 1
      have f1 := hm.frozen 1
      simp only [List.getElem?_cons_zero, List.getElem?_cons_succ] at c1
      have c1a : ∀ o : Obj, (wr.alloc o).cell? _ = _ := fun o => Fr.cell_ext (w := wr) (by repeat (first | exact Fr.refl _ _ _ | assumption | apply Fr.drew | (refine Fr.drewN ?_ _) | (refine Fr.alloc ?_ (by first | omega | (simp; done) | (simp; omega)) _) | (refine Fr.setCell ?_ (by first | (left; simp; done) | (right; simp; done) | (right; simp; omega)) _))) c1
      have c1b : ∀ o o' : Obj, ((wr.alloc o).alloc o').cell? _ = _ := fun o o' => Fr.cell_ext (w := wr) (by repeat (first | exact Fr.refl _ _ _ | assumption | apply Fr.drew | (refine Fr.drewN ?_ _) | (refine Fr.alloc ?_ (by first | omega | (simp; done) | (simp; omega)) _) | (refine Fr.setCell ?_ (by first | (left; simp; done) | (right; simp; done) | (right; simp; omega)) _))) c1
      have hq1 := hm.alloc Z 5
      have hs1 : Sl (wr.alloc (.cells Z.toArray 5)).drew (some ⟨wr.heap.size, 0, none⟩) 512 512 (byts z512) := by
        have := hq1.blk.1.sl_all 512 HZl.out (by omega)
        rw [HZb.out] at this ⊢
        exact this.drew
      have hstr := hs1.str (P := Try.prog) 34 9 5 Try.underlying34 Try.underlying5 Try.underlying9
      have hq2 := (hq1.alloc [.string ⟨z512.toArray⟩] 9).drew
      have hzz : (wr.alloc (.cells Z.toArray 5)).heap.size = wr.heap.size + 1 := by simp
      rw [hzz] at hq2
      have HQ := hid hq2
      have hrl := hm.p1.row_len
      clear hm hq1 hs1 hq2 hzz
      go_wp2_with fail
      go_region_law (first | ((with_reducible show (if Region.wanted (Oper.mk (some 25) _ _ _ _ _) _ = true then _ else _)); refine step_append (by rfl) (.tmp 21) (.tmp 24) 29 (by rfl) Try.underlying29 JI.out JZ.out JS.out JB.out (by rfl) (by omega) (by rfl) (by rfl) HQ.out.p3 rfl (by rfl) (news_built HQ.out.blk.1) (by intro h; cases h) (by simp; rfl) (by omega) (by omega) ?_; intro a' c' w5 hm5 _ _; have hm6 := hm5.duo_row.p3; have x1 := hm6.cell 1; have y1 := hm6.frozen 1; simp only [List.getElem?_cons_zero, List.getElem?_cons_succ] at x1))
      all_goals
        have hm7 := hid (hm6.setCell 1 (.slice a' (k + 1) c'))
        clear hm5 hm6
        go_wp2_with fail
        go_roundw
        case rel => exact ⟨k + 1, a', c', by omega, by go_num, by
          have := hm7.out.p2.right.p2.right
          have e : strs (List.replicate (k + 1) z512) = strs (List.replicate k z512) ++ [.string ⟨z512.toArray⟩] := by
            rw [List.replicate_succ']; simp [strs]
          rw [e]; exact this⟩
        case measure => simp [intOf] <;> omega
    · obtain rfl : k = 4 := by omega
      have HM := hid hm
      clear hm
      go_wp2_with fail
      refine (fixed_any wb _ _ HM.out).mono ?_
      rintro e w6 ⟨rfl, hm6⟩
      have HM6 := hid hm6
      clear hm6
      dsimp only
      go_wp2_with fail
      go_ret2
      refine ⟨_, rfl, Mem.lifeAt.2 ⟨gd, va, vc, none, 0, ?_⟩⟩
      exact (Mem.pends_nil (u := T8.u8) (pt := T8.pe) HM6.out).q2
end Go.Proofs.Ytpdppacafkdgdaa
