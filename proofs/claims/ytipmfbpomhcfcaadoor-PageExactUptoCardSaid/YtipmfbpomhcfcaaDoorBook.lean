/- The law's own hands: room behind what is handed in, and the book of what was handed out. -/
import Derived.Test.YtipmfbpomhcfcaaDoorMem2
import Derived.Test.YtipmfbpomhcfcaaDoorRef3
import Derived.Test.YtipmfbpomhcfcaaDoorPgLaw
namespace Go.Le
open Go Go.RowKit
theorem Ow.setCell {w : World} {B : Nat} {e : TypeId} {g n c : Nat} {xs : List Value} (h : Ow w B e (some ⟨g, 0, none⟩) n c xs) (k : Nat) (_hk : k < n) (v : Value) : Ow (w.setCell ⟨g, k, none⟩ v) B e (some ⟨g, 0, none⟩) n c (xs.set k v) := by
  obtain ⟨h1, h2⟩ := h
  refine ⟨by rw [List.length_set]; exact h1, ?_⟩
  rcases h2 with ⟨hv, _⟩ | ⟨g', cap, cur, hv, hB, hg, hle, hmax, hsz, htk⟩
  · simp at hv
  · simp only [Value.slice.injEq, Option.some.injEq, Addr.mk.injEq, true_and, and_true] at hv
    obtain ⟨rfl, rfl⟩ := hv
    refine .inr ⟨g, c, cur.setIfInBounds k v, rfl, hB, heap_setCell_same w g k cur e v hg, hle, hmax, by simpa using hsz, ?_⟩
    rw [Array.toList_setIfInBounds, List.take_set, htk]
theorem Ow.frozen {w : World} {B : Nat} {e : TypeId} {g n c : Nat} {xs : List Value} (h : Ow w B e (some ⟨g, 0, none⟩) n c xs) (k : Nat) : w.frozen? ⟨g, k, none⟩ = false := by
  rcases h.2 with ⟨hv, _⟩ | ⟨g', cap, cur, hv, hB, hg, hle, hmax, hsz, htk⟩
  · simp at hv
  · simp only [Value.slice.injEq, Option.some.injEq, Addr.mk.injEq, true_and, and_true] at hv
    obtain ⟨rfl, rfl⟩ := hv
    exact frozen_of_row w g k cur e hg
/-- marks from M on -/
def mks (M k : Nat) : List UInt8 := (List.range k).map fun i => UInt8.ofNat (M + i)
theorem mks_length (M k : Nat) : (mks M k).length = k := by simp [mks]
theorem mks_succ (M k : Nat) : mks M (k + 1) = mks M k ++ [UInt8.ofNat (M + k)] := by simp [mks, List.range_succ]
theorem mks_set (M k : Nat) (l : List UInt8) (h : k < l.length) : (mks M k ++ l.drop k).set k (UInt8.ofNat (M + k)) = mks M (k + 1) ++ l.drop (k + 1) := by
  rw [List.set_append, if_neg (by rw [mks_length]; omega), mks_length, Nat.sub_self, List.drop_eq_getElem_cons h, List.set_cons_zero, mks_succ, List.append_assoc]
  rfl
end Go.Le
namespace Go.Proofs.YtipmfbpomhcfcaaDoor
open Go Go.RowKit Go.Le
theorem infoSl : (Tryd.prog.info? 22).map (fun i => (i.zero, i.size, i.bytes)) = some (some (.slice none 0 0), 1, 24) := by kernel_rfl
/-- three marks -/
def m3 : List UInt8 := [0xd1, 0xd2, 0xd3]

set_option maxHeartbeats 1000000 in
theorem Room_any (a : Option Addr) (n c : Nat) (l : List UInt8) (w : World) (h : Sl w a n c (byts l)) (hn : n ≤ 2097152) :
    Calls Tryd.prog 18 #[.slice a n c] w fun e w' => ∃ a' c', e = .returned (.slice a' (n + 3) c') ∧ Ow w' w.heap.size 5 a' (n + 3) c' (byts (l ++ m3)) ∧ Fr w.heap.size [] w w' := by
  obtain ⟨i, hi, hz, hsz, hby⟩ := info_parts infoU8
  have JI := hid hi
  have JZ := hid hz
  have JS := hid hsz
  have JB := hid hby
  clear hi hz hsz hby
  go_enter Tryd.func18, Tryd.ntmps18
  go_wp2_with ((with_reducible show wpList _ _ _ (Oper.mk (some 4) _ _ _ _ _ :: _) _ _); refine wpList_app (by rfl) (.const (.slice none 0 0)) (.tmp 3) 22 (by rfl) w.heap.size 5 Tryd.underlying22 JI.out JZ.out JS.out JB.out (by rfl) (by rfl) (by rfl) (Ow.nil _ _ _) h (byts_oneCell _) (by simp [maxLen]; omega) (by omega) (by simp) ?_)
  intro a1 c1 w1 how1 hf1 hn1 hl1
  have hf1' : Fr w.heap.size [] w w1 := by
    have e : blk none = [] := rfl
    rw [e] at hf1
    exact hf1
  have hlt : ∀ p, a1 = some p → w.heap.size ≤ p.block := fun p hp => (how1.lt p hp).2.2.1
  clear hf1
  go_wp2_with ((with_reducible show wpList _ _ _ (Oper.mk (some 6) _ _ _ _ _ :: _) _ _); refine wpList_app (by rfl) (.tmp 4) (.tmp 5) 22 (by rfl) w.heap.size 5 Tryd.underlying22 JI.out JZ.out JS.out JB.out (by rfl) (by rfl) (by rfl) (how1.alloc _) (Blk.sl_all (cs := byts m3) (by repeat (first | assumption | apply Blk.drew | exact Blk.new' _ _ (by first | rfl | (simp; done) | (simp; omega)) | apply Blk.alloc)) 3 rfl (by omega)) (byts_oneCell _) (by simp [maxLen]; omega) (by omega) (by have := hf1'.size; simp; omega) ?_)
  intro a2 c2 w2 how2 hf2 hn2 hl2
  go_wp2
  go_ret
  have hff : Fr w.heap.size [] w w2 := Fr.call (k := hf2) (h := hf1'.alloc hf1'.size _) (hB := by have := hf1'.size; simp; omega) (hS := by
    intro x hx
    obtain ⟨p, hp, rfl⟩ := mem_blk.1 hx
    exact .inr (hlt p hp))

  rw [← byts_append] at how2
  exact ⟨a2, c2, rfl, how2, hff⟩
end Go.Proofs.YtipmfbpomhcfcaaDoor
namespace Go.Proofs.YtipmfbpomhcfcaaDoor
open Go Go.RowKit Go.Le
set_option maxHeartbeats 1000000 in
theorem Kept_any (a : Option Addr) (n c : Nat) (a' : Option Addr) (n' c' : Nat) (l : List UInt8) (w : World) (h : Sl w a n c (byts (l ++ m3))) (h' : Sl w a' n' c' (byts l)) (hn : n' ≤ 2097152) :
    Calls Tryd.prog 25 #[.slice a n c, .slice a' n' c'] w fun e w' => e = .returned (.bool true) ∧ Fr w.heap.size [] w w' := by
  go_enter Tryd.func25, Tryd.ntmps25
  go_wp2_with (first | (go_at_call 18; refine (Room_any _ _ _ l _ h' hn).mono ?_; rintro e w' ⟨a2, c2, rfl, how, hf⟩; have h2 := h.ext hf; have h3 := how.sl; dsimp only) | (go_at_call 14; refine (Eq_any _ _ _ _ _ _ (l ++ m3) (l ++ m3) _ h2 h3).mono ?_; rintro e w' ⟨rfl, rfl⟩))
  go_ret
  exact ⟨by simp, hf⟩

/-- slices of bytes, one for each entry, that read alike -/
structure Entry (w : World) (B H : Nat) (F : List Nat) (u v : Value) : Prop where
  out : ∃ a n c a' n' c' xs, u = .slice a n c ∧ v = .slice a' n' c' ∧ Sl w a n c (byts xs) ∧ Sl w a' n' c' (byts xs) ∧ (∀ x ∈ blk a ++ blk a', B ≤ x ∧ x < H ∧ x ∉ F)
/-- the book: what was handed out, and what it must hold -/
structure Bk (w : World) (B H g N : Nat) : Prop where
  out : ∃ la ln lc wa wc L W, Blk w g 31 [.slice la ln lc, .slice wa ln wc] ∧ Ow w B 22 la ln lc L ∧ Ow w B 22 wa ln wc W ∧ ln ≤ N ∧ B ≤ g ∧ g < H ∧
    (∀ x ∈ blk la ++ blk wa, B ≤ x ∧ x < H ∧ x ≠ g) ∧ (∀ x ∈ blk la, x ∉ blk wa) ∧
    (∀ i, i < ln → ∃ u v, L[i]? = some u ∧ W[i]? = some v ∧ Entry w B H (g :: (blk la ++ blk wa)) u v)

theorem Entry.fr {w w' : World} {B H : Nat} {F : List Nat} {u v : Value} (h : Entry w B H F u v) {B' : Nat} {S : List Nat} (hf : Fr B' S w w') (hB : H ≤ B') (hS : ∀ x ∈ S, (x ∈ F ∨ x < B ∨ H ≤ x)) {H' : Nat} {F' : List Nat} (hH : H ≤ H') (hF : ∀ x ∈ F', x ∈ F ∨ H ≤ x) : Entry w' B H' F' u v := by
  obtain ⟨a, n, c, a', n', c', xs, rfl, rfl, h1, h2, h3⟩ := h.out
  have key : ∀ b, (∀ x ∈ blk b, B ≤ x ∧ x < H ∧ x ∉ F) → ∀ p, b = some p → p.block < B' ∧ p.block ∉ S := by
    intro b hb p hp
    have := hb p.block (mem_blk.2 ⟨p, hp, rfl⟩)
    refine ⟨by omega, fun hm => ?_⟩
    rcases hS _ hm with h | h | h
    · exact this.2.2 h
    · omega
    · omega
  refine ⟨a, n, c, a', n', c', xs, rfl, rfl, h1.fr hf (key a fun x hx => h3 x (List.mem_append_left _ hx)), h2.fr hf (key a' fun x hx => h3 x (List.mem_append_right _ hx)), fun x hx => ?_⟩
  have := h3 x hx
  refine ⟨this.1, by omega, fun hm => ?_⟩
  rcases hF _ hm with h | h
  · exact this.2.2 h
  · omega
/-- what leaves the book's blocks alone leaves the book -/
theorem Bk.fr {w w' : World} {B H g N : Nat} (h : Bk w B H g N) {B' : Nat} {S : List Nat} (hf : Fr B' S w w') (hB : H ≤ B') (hS : ∀ x ∈ S, x < B ∨ H ≤ x) {H' N' : Nat} (hH : H ≤ H') (hN : N ≤ N') : Bk w' B H' g N' := by
  obtain ⟨la, ln, lc, wa, wc, L, W, h1, h2, h3, h4, h5, h6, h7, h8, h9⟩ := h.out
  have hs : ∀ x, B ≤ x → x < H → x ∉ S := fun x h1 h2 hm => by rcases hS x hm with h | h <;> omega
  refine ⟨la, ln, lc, wa, wc, L, W, h1.fr hf (by omega) (hs _ h5 h6), h2.fr hf (fun p hp => ?_), h3.fr hf (fun p hp => ?_), by omega, h5, by omega, fun x hx => ?_, h8, fun i hi => ?_⟩
  · have := h7 p.block (List.mem_append_left _ (mem_blk.2 ⟨p, hp, rfl⟩))
    exact ⟨by omega, hs _ this.1 this.2.1⟩
  · have := h7 p.block (List.mem_append_right _ (mem_blk.2 ⟨p, hp, rfl⟩))
    exact ⟨by omega, hs _ this.1 this.2.1⟩
  · have := h7 x hx
    exact ⟨this.1, by omega, this.2.2⟩
  · obtain ⟨u, v, e1, e2, e3⟩ := h9 i hi
    exact ⟨u, v, e1, e2, e3.fr hf hB (fun x hx => .inr (hS x hx)) hH (fun x hx => .inl hx)⟩

theorem Eq_left (a a' : Option Addr) (n c n' c' : Nat) (l : List UInt8) (w : World) (k : Nat) (h : Sl w a n c (byts l)) (h' : Sl w a' n' c' (byts l)) :
    Calls Tryd.prog 14 #[.slice a n c, .slice a' n' c'] (w.drewN k) fun e w'' => e = .returned (.bool true) ∧ ∃ m, w'' = w.drewN m := by
  have hf : Fr w.heap.size [] w (w.drewN k) := (Fr.refl _ _ _).drewN k
  refine (Eq_any _ _ _ _ _ _ l l _ (h.ext hf) (h'.ext hf)).mono ?_
  rintro e w' ⟨rfl, rfl⟩
  exact ⟨by simp, k, rfl⟩

set_option maxHeartbeats 1000000 in
theorem Holds_any (w : World) (B H g N : Nat) (h : Bk w B H g N) (hN : N ≤ 1000) :
    Calls Tryd.prog 11 #[.pointer (some ⟨g, 0, none⟩)] w fun e w' => e = .returned (.bool true) ∧ Fr w.heap.size [] w w' := by
  obtain ⟨la, ln, lc, wa, wc, L, W, h1, h2, h3, h4, h5, h6, h7, h8, h9⟩ := h.out
  have hc0 := h1.cell 0
  have hc1 := h1.cell 1
  simp only [List.getElem?_cons_zero, List.getElem?_cons_succ] at hc0 hc1
  have HL := hid h2.sl
  have HW := hid h3.sl
  have H9 := hid h9
  clear h9 h8 h7 h1 h2 h3 h
  go_enter Tryd.func11, Tryd.ntmps11
  go_wp2
  go_loopw [3] (fun i wr => ∃ k : Nat, k ≤ ln ∧ i = .int .i64 k ∧ Fr w.heap.size [] w wr) (fun i _ => ln - (intOf i).toNat)
  case atStart => exact ⟨0, by omega, rfl, Fr.refl _ _ _⟩
  case round =>
    obtain ⟨k, hk, rfl, hfr⟩ := hrel
    have x0 := hfr.cell_ext hc0
    have x1 := hfr.cell_ext hc1
    by_cases hlt : k < ln
    · obtain ⟨u, v, e1, e2, e3⟩ := H9.out k hlt
      obtain ⟨a, n, c, a', n', c', xs, rfl, rfl, s1, s2, -⟩ := e3.out
      obtain ⟨b1, o1, rfl⟩ := HL.out.addr (by omega)
      obtain ⟨b2, o2, rfl⟩ := HW.out.addr (by omega)
      have d1 := (HL.out.ext hfr).cell k hlt _ rfl
      have d2 := (HW.out.ext hfr).cell k hlt _ rfl
      rw [e1] at d1
      rw [e2] at d2
      simp only at d1 d2
      have S1 := hid (s1.ext hfr)
      have S2 := hid (s2.ext hfr)
      clear e1 e2 e3 s1 s2 hc0 hc1
      go_wp2
      go_quiet ((go_at_call 14; exact Eq_left _ _ _ _ _ _ _ _ _ S1.out S2.out))
      have hq : Fr w.heap.size [] w (wr.drewN nq) := (by repeat (first | exact Fr.refl _ _ _ | assumption | apply Fr.drew | (refine Fr.drewN ?_ _) | (refine Fr.alloc ?_ (by first | omega | (simp; done) | (simp; omega)) _) | (refine Fr.setCell ?_ (by first | (left; simp; done) | (right; simp; done) | (right; simp; omega)) _)))
      generalize wr.drewN nq = w2 at *
      go_wp2
      go_roundw
      case rel => exact ⟨k + 1, by omega, by go_num, hq⟩
      case measure => simp [intOf] <;> omega
    · clear hc0 hc1
      go_wp2
      go_ret
      exact ⟨rfl, hfr⟩
end Go.Proofs.YtipmfbpomhcfcaaDoor
