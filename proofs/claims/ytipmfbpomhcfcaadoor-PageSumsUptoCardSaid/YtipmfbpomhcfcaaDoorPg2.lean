/- The walks of page.sum, page.made, page.four: a page's checksum, a page of its parts. -/
import Derived.Test.YtipmfbpomhcfcaaDoorPg1
set_option linter.unusedVariables false
set_option linter.unusedSimpArgs false
namespace Go.Le
open Go
theorem be4_cells (x : Nat) (h1 : x < 4294967296) : byts (be4 x) = [Value.int .u8 ((x : Int) / 16777216), Value.int .u8 ((x : Int) / 65536 % 256), Value.int .u8 ((x : Int) / 256 % 256), Value.int .u8 ((x : Int) % 256)] := by
  simp only [be4, be2, byts, byt, List.cons_append, List.nil_append, List.map_cons, List.map_nil, UInt8.toNat_ofNat', List.cons.injEq, Value.int.injEq, true_and, and_true]
  refine ⟨?_, ?_, ?_, ?_⟩ <;> omega
/-- what a page's checksum is taken of: its own four bytes as zeros -/
def sumIn (l : List UInt8) : List UInt8 := l.take 12 ++ ([0, 0, 0, 0] ++ l.drop 16)
def pgSum (l : List UInt8) : List UInt8 := be4 (crc (sumIn l)).toNat
/-- a page of these parts, no checksum yet -/
def bare (kind : UInt8) (n count : Nat) (c : List UInt8) : List UInt8 :=
  [0xd6, kind] ++ (be2 n ++ (be2 count ++ (be2 c.length ++ (List.replicate 4 0 ++ (List.replicate 4 0 ++ (c ++ List.replicate (1008 - c.length) 0))))))
def pgMade (kind : UInt8) (n count : Nat) (c : List UInt8) : List UInt8 :=
  [0xd6, kind] ++ (be2 n ++ (be2 count ++ (be2 c.length ++ (List.replicate 4 0 ++ (be4 (crc (bare kind n count c)).toNat ++ (c ++ List.replicate (1008 - c.length) 0))))))
theorem bare_length (kind : UInt8) (n count : Nat) (c : List UInt8) (hc : c.length ≤ 1008) : (bare kind n count c).length = 1024 := by
  simp [bare, be2]; omega
theorem pgMade_length (kind : UInt8) (n count : Nat) (c : List UInt8) (hc : c.length ≤ 1008) : (pgMade kind n count c).length = 1024 := by
  simp [pgMade, be2, be4]; omega
theorem sumIn_bare (kind : UInt8) (n count : Nat) (c : List UInt8) : sumIn (bare kind n count c) = bare kind n count c := by
  simp [sumIn, bare, be2]
end Go.Le
namespace Go.Proofs.YtipmfbpomhcfcaaDoor
open Go Go.RowKit Go.Le

set_option maxHeartbeats 400000 in
theorem psum_any (b o c : Nat) (l : List UInt8) (w : World) (ht : Tabled w) (h : Sl w (some ⟨b, o, none⟩) 1024 c (byts l)) :
    Calls Tryd.prog 39 #[.slice (some ⟨b, o, none⟩) 1024 c] w fun e w' => ∃ g, e = .returned (.slice (some ⟨g, 0, none⟩) 4 4) ∧ w.heap.size ≤ g ∧ Blk w' g 5 (byts (pgSum l)) ∧ Fr w.heap.size [] w w' := by
  have hle := h.le
  have hcap := h.cap
  have hc12 : (12 : Int) ≤ (c : Int) := by omega
  have hcn : (c = 16) = False := by simp; omega
  have hlen := h.len
  rw [byts_length] at hlen
  have HL := hid hlen
  clear hlen
  have H1 := h.cut 0 12 (by omega) (by omega) (some ⟨b, o, none⟩) (by simp [Addr.add])
  have H2 := h.cut 16 1024 (by omega) (by omega) (some ⟨b, o + 16, none⟩) (by rw [if_neg (by omega)]; rfl)
  have hx := (crc (sumIn l)).isLt
  have HX := hid (rfl : crc (sumIn l) = crc (sumIn l))
  generalize hxx : crc (sumIn l) = x at hx HX
  have HXX := hid hxx
  clear hxx HX
  have HS : Hid (∀ w1, Fr w.heap.size [] w w1 → Blk w1 w.heap.size 5 (byts [0, 0, 0, 0]) →
      Blk w1 (w.heap.size + 1) 22 [.slice (some ⟨b, o, none⟩) 12 c, .slice (some ⟨w.heap.size, 0, none⟩) 4 4, .slice (some ⟨b, o + 16, none⟩) 1008 (c - 16)] → SlL w1 (some ⟨w.heap.size + 1, 0, none⟩) 3 3 [l.take 12, [0, 0, 0, 0], l.drop 16]) := by
    intro w1 hf hz hp
    have h1 := H1.ext hf
    have h2 := H2.ext hf
    rw [List.take_of_length_le (by rw [byts_length, HL.out]; omega)] at h2
    exact SlL.of_blk (ls := [l.take 12, [0, 0, 0, 0], l.drop 16]) hp (And.intro ⟨_, _, _, rfl, by simpa [byts] using h1⟩ (And.intro ⟨_, _, _, rfl, hz.sl_all 4 rfl (by omega)⟩ (And.intro ⟨_, _, _, rfl, by simpa [byts] using h2⟩ trivial))) 3 rfl (by omega)
  have HT : Hid (∀ w1, Fr w.heap.size [] w w1 → Tabled w1) := fun w1 hf i hi => hf.cell_ext (ht i hi)
  have hfl : [l.take 12, [0, 0, 0, 0], l.drop 16].flatten = sumIn l := by simp [sumIn]
  have HFL := hid hfl
  clear hfl ht H1 H2
  go_enter Tryd.func39, Tryd.ntmps39
  go_wp2
  go_region_held3 (fun _ => True) (trivial) (first | (go_at_call 8; refine (sum_any _ _ _ [l.take 12, [0, 0, 0, 0], l.drop 16] _ (HT.out _ (by repeat (first | exact Fr.refl _ _ _ | assumption | apply Fr.drew | (refine Fr.drewN ?_ _) | (refine Fr.alloc ?_ (by first | omega | (simp; done) | (simp; omega)) _) | (refine Fr.setCell ?_ (by first | (left; simp; done) | (right; simp; done) | (right; simp; omega)) _)))) (HS.out _ (by repeat (first | exact Fr.refl _ _ _ | assumption | apply Fr.drew | (refine Fr.drewN ?_ _) | (refine Fr.alloc ?_ (by first | omega | (simp; done) | (simp; omega)) _) | (refine Fr.setCell ?_ (by first | (left; simp; done) | (right; simp; done) | (right; simp; omega)) _))) (by repeat (first | assumption | apply Blk.drew | exact Blk.new' _ _ (by first | rfl | (simp; done) | (simp; omega)) | apply Blk.alloc)) (by repeat (first | assumption | apply Blk.drew | exact Blk.new' _ _ (by first | rfl | (simp; done) | (simp; omega)) | apply Blk.alloc))) (by omega)).mono ?_; rintro e w' ⟨rfl, rfl⟩; rw [HFL.out, HXX.out]))
  go_wp2
  go_ret
  refine ⟨_, rfl, by omega, ?_, (by repeat (first | exact Fr.refl _ _ _ | assumption | apply Fr.drew | (refine Fr.drewN ?_ _) | (refine Fr.alloc ?_ (by first | omega | (simp; done) | (simp; omega)) _) | (refine Fr.setCell ?_ (by first | (left; simp; done) | (right; simp; done) | (right; simp; omega)) _)))⟩
  rw [pgSum, HXX.out, be4_cells _ hx]
  exact (by repeat (first | assumption | apply Blk.drew | exact Blk.new' _ _ (by first | rfl | (simp; done) | (simp; omega)) | apply Blk.alloc))
end Go.Proofs.YtipmfbpomhcfcaaDoor
