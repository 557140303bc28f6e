/- The law's Note: what was handed out is written full, and put into the book. -/
import Derived.Test.YtipmfbpomhcfcaaDoorBook
import Derived.Deep.CutRange
import Derived.Deep.RegionLaw
namespace Go.Le
open Go Go.RowKit
/-- one half of Note: marks behind what was handed out, both slices into a row of the book, the row's value into the book -/
theorem note_half {wr W1 w5 W5 w6 : World} {B Bs g j : Nat} {t8 t22 tb : TypeId} {a ra a5 lb : Option Addr} {n c n5 c5 nb cb rn rc : Nat} {xs ys : List UInt8} {R RR cs : List Value} {v : Value}
    (f1 : Fr wr.heap.size [] wr W1) (how5 : Ow w5 Bs t8 a5 n5 c5 (byts ys)) (keep5 : Sl w5 a n c (byts xs)) (f5 : Fr W1.heap.size (blk a) W1 w5)
    (l5 : ∀ p, a5 = some p → p.block ∈ blk a ∨ p.block = W1.heap.size) (f6 : Fr w5.heap.size [] w5 W5) (how6 : Ow w6 B t22 lb nb cb RR) (f7 : Fr W5.heap.size (blk ra) W5 w6)
    (l7 : ∀ p, lb = some p → p.block ∈ blk ra ∨ p.block = W5.heap.size) (da : ∀ y ∈ blk a, y < wr.heap.size ∧ y ∉ blk ra ∧ y ≠ g) (dr : ∀ y ∈ blk ra, y < wr.heap.size ∧ y ≠ g)
    (hg : Blk wr g tb cs) (_ : Ow wr B t22 ra rn rc R) :
    Ow (w6.setCell ⟨g, j, none⟩ v) B t22 lb nb cb RR ∧ Blk (w6.setCell ⟨g, j, none⟩ v) g tb (cs.set j v) ∧ Sl (w6.setCell ⟨g, j, none⟩ v) a n c (byts xs) ∧ Sl (w6.setCell ⟨g, j, none⟩ v) a5 n5 c5 (byts ys) ∧
    Fr wr.heap.size (g :: (blk ra ++ blk a)) wr (w6.setCell ⟨g, j, none⟩ v) ∧ ∃ k5, wr.heap.size ≤ k5 ∧ k5 ≤ (w6.setCell ⟨g, j, none⟩ v).heap.size ∧ (∀ y ∈ blk a5, y ∈ blk a ∨ (wr.heap.size ≤ y ∧ y < k5)) ∧ (∀ y ∈ blk lb, y ∈ blk ra ∨ (k5 ≤ y ∧ y < (w6.setCell ⟨g, j, none⟩ v).heap.size)) := by
  have s1 := f1.size
  have s5 := f5.size
  have s6 := f6.size
  have s7 := f7.size
  have hgl := hg.lt
  have hga : g ∉ blk a := fun hm => (da g hm).2.2 rfl
  have hgr : g ∉ blk ra := fun hm => (dr g hm).2 rfl
  have fs : Fr w6.heap.size [g] w6 (w6.setCell ⟨g, j, none⟩ v) := (Fr.refl _ _ _).setCell (.inl (by simp)) _
  have ss : (w6.setCell ⟨g, j, none⟩ v).heap.size = w6.heap.size := by simp [World.setCell]
  have hb5 : Blk w5 g tb cs := (hg.ext f1).fr f5 (by omega) hga
  have hb6 : Blk w6 g tb cs := (hb5.ext f6).fr f7 (by omega) hgr
  have p5 : ∀ y ∈ blk a5, y ∈ blk a ∨ (y = W1.heap.size ∧ y < w5.heap.size) := by
    intro y hy
    obtain ⟨p, hp, rfl⟩ := mem_blk.1 hy
    rcases l5 p hp with h | h
    · exact .inl h
    · exact .inr ⟨h, (how5.lt p hp).2.2.2⟩
  have p6 : ∀ y ∈ blk lb, y ∈ blk ra ∨ (y = W5.heap.size ∧ y < w6.heap.size) := by
    intro y hy
    obtain ⟨p, hp, rfl⟩ := mem_blk.1 hy
    rcases l7 p hp with h | h
    · exact .inl h
    · exact .inr ⟨h, (how6.lt p hp).2.2.2⟩
  have carry : ∀ (b : Option Addr) (n c : Nat) (zs : List Value), Sl w5 b n c zs → (∀ y ∈ blk b, y < w5.heap.size ∧ y ∉ blk ra ∧ y ≠ g) → Sl (w6.setCell ⟨g, j, none⟩ v) b n c zs := by
    intro b n c zs h hd
    refine Sl.fr (Sl.fr (h.ext f6) f7 fun p hp => ?_) fs fun p hp => ?_
    · have := hd _ (mem_blk.2 ⟨p, hp, rfl⟩)
      exact ⟨by omega, this.2.1⟩
    · have := hd _ (mem_blk.2 ⟨p, hp, rfl⟩)
      exact ⟨by omega, by simpa using this.2.2⟩
  refine ⟨how6.fr fs fun p hp => ?_, hb6.setCell j v, carry _ _ _ _ keep5 fun y hy => ?_, carry _ _ _ _ how5.sl fun y hy => ?_, ?_, w5.heap.size, by omega, by omega, fun y hy => ?_, fun y hy => ?_⟩
  · refine ⟨(how6.lt p hp).2.2.2, ?_⟩
    rcases l7 p hp with h | h
    · simpa using (dr _ h).2
    · simp; omega
  · have := da y hy
    exact ⟨by omega, this.2⟩
  · rcases p5 y hy with h | h
    · have := da y h
      exact ⟨by omega, this.2⟩
    · refine ⟨h.2, fun hm => ?_, by omega⟩
      have := dr y hm
      omega
  · refine Fr.call' (k := fs) (h := ?_) (hS := by simp)
    refine Fr.call' (k := f7) (h := ?_) (hS := fun y hy => .inl (by simp [hy]))
    refine Fr.call' (k := f6) (h := ?_) (hS := by simp)
    exact Fr.call (k := f5) (h := f1.mono (Nat.le_refl _) (by simp)) (hB := s1) (hS := fun y hy => .inl (by simp [hy]))
  · rcases p5 y hy with h | h
    · exact .inl h
    · exact .inr (by omega)
  · rcases p6 y hy with h | h
    · exact .inl h
    · exact .inr (by omega)
end Go.Le
namespace Go.Proofs.YtipmfbpomhcfcaaDoor
open Go Go.RowKit Go.Le

/-- the book behind Note -/
theorem note_end {w wr w8 wf : World} {B H H2 g N ln n c c5 c9 tc lbc wbc M : Nat} {la wa a ta a5 a9 lb wb : Option Addr} {L W : List Value} {x3 : List UInt8} (hH : H ≤ H2) (hH2 : H2 ≤ w.heap.size) (h4 : ln ≤ N) (h5 : B ≤ g) (h6 : g < H) (hL : L.length = ln) (hW : W.length = ln)
    (H7 : ∀ x ∈ blk la ++ blk wa, B ≤ x ∧ x < H ∧ x ≠ g) (H8 : ∀ x ∈ blk la, x ∉ blk wa) (H9 : ∀ i, i < ln → ∃ u v, L[i]? = some u ∧ W[i]? = some v ∧ Entry w B H (g :: (blk la ++ blk wa)) u v)
    (ha : ∀ x ∈ blk a, H2 ≤ x ∧ x < w.heap.size) (hta : ∀ x ∈ blk ta, w.heap.size ≤ x ∧ x < wr.heap.size) (hfr : Fr w.heap.size (blk a) w wr)
    (q1 : Ow w8 B 22 lb (ln + 2) lbc (L ++ [.slice a n c, .slice a5 (n + 3) c5])) (q3 : Sl w8 a n c (byts (mks M n))) (q4 : Sl w8 a5 (n + 3) c5 (byts (mks M n ++ x3))) (q5 : Fr wr.heap.size (g :: (blk la ++ blk a)) wr w8)
    (q6 : ∃ k5, wr.heap.size ≤ k5 ∧ k5 ≤ w8.heap.size ∧ (∀ y ∈ blk a5, y ∈ blk a ∨ (wr.heap.size ≤ y ∧ y < k5)) ∧ (∀ y ∈ blk lb, y ∈ blk la ∨ (k5 ≤ y ∧ y < w8.heap.size)))
    (p1 : Ow wf B 22 wb (ln + 2) wbc (W ++ [.slice ta n tc, .slice a9 (n + 3) c9])) (p2 : Blk wf g 31 [.slice lb (ln + 2) lbc, .slice wb (ln + 2) wbc]) (p3 : Sl wf ta n tc (byts (mks M n))) (p4 : Sl wf a9 (n + 3) c9 (byts (mks M n ++ x3))) (p5 : Fr w8.heap.size (g :: (blk wa ++ blk ta)) w8 wf)
    (p6 : ∃ k5, w8.heap.size ≤ k5 ∧ k5 ≤ wf.heap.size ∧ (∀ y ∈ blk a9, y ∈ blk ta ∨ (w8.heap.size ≤ y ∧ y < k5)) ∧ (∀ y ∈ blk wb, y ∈ blk wa ∨ (k5 ≤ y ∧ y < wf.heap.size))) :
    Bk wf B wf.heap.size g (N + 2) ∧ ∃ S, Fr w.heap.size S w wf ∧ ∀ x ∈ S, (B ≤ x ∧ x < H) ∨ H2 ≤ x := by
  obtain ⟨k5, q6, q7, q8, q9⟩ := q6
  obtain ⟨k9, p6, p7, p8, p9⟩ := p6
  have sr := hfr.size
  have hla : ∀ x ∈ blk la, B ≤ x ∧ x < H ∧ x ≠ g := fun x hx => H7 x (List.mem_append_left _ hx)
  have hwa : ∀ x ∈ blk wa, B ≤ x ∧ x < H ∧ x ≠ g := fun x hx => H7 x (List.mem_append_right _ hx)
  have hlb : ∀ x ∈ blk lb, (x ∈ blk la ∧ B ≤ x ∧ x < H ∧ x ≠ g) ∨ (k5 ≤ x ∧ x < w8.heap.size) := fun x hx => (q9 x hx).imp (fun h => ⟨h, hla x h⟩) id
  have hwb : ∀ x ∈ blk wb, (x ∈ blk wa ∧ B ≤ x ∧ x < H ∧ x ≠ g) ∨ (k9 ≤ x ∧ x < wf.heap.size) := fun x hx => (p9 x hx).imp (fun h => ⟨h, hwa x h⟩) id
  have ha5 : ∀ x ∈ blk a5, (H2 ≤ x ∧ x < w.heap.size) ∨ (wr.heap.size ≤ x ∧ x < k5) := fun x hx => (q8 x hx).imp (ha x) id
  have ha9 : ∀ x ∈ blk a9, (w.heap.size ≤ x ∧ x < wr.heap.size) ∨ (w8.heap.size ≤ x ∧ x < k9) := fun x hx => (p8 x hx).imp (hta x) id
  have ff : Fr w.heap.size (g :: (blk la ++ blk wa ++ blk a)) w wf := by
    refine Fr.call (k := p5) (h := ?_) (hB := by omega) (hS := fun x hx => ?_)
    · refine Fr.call (k := q5) (h := hfr.mono (Nat.le_refl _) (fun x hx => .inl (by simp [hx]))) (hB := by omega) (hS := fun x hx => ?_)
      simp only [List.mem_cons, List.mem_append] at hx ⊢
      rcases hx with h | h | h <;> simp [h]
    · simp only [List.mem_cons, List.mem_append] at hx ⊢
      rcases hx with h | h | h
      · simp [h]
      · simp [h]
      · exact .inr (hta x h).1
  have carry : ∀ (b : Option Addr) (n c : Nat) (zs : List Value), Sl w8 b n c zs → (∀ y ∈ blk b, y < w8.heap.size ∧ y ∉ blk wa ∧ y ∉ blk ta ∧ y ≠ g) → Sl wf b n c zs := by
    intro b n c zs h hd
    refine h.fr p5 fun p hp => ?_
    have := hd _ (mem_blk.2 ⟨p, hp, rfl⟩)
    refine ⟨this.1, ?_⟩
    simp only [List.mem_cons, List.mem_append]
    rintro (h | h | h)
    · exact this.2.2.2 h
    · exact this.2.1 h
    · exact this.2.2.1 h
  have nwa : ∀ y, H ≤ y → y ∉ blk wa := fun y hy hm => by have := hwa y hm; omega
  have nta : ∀ y, y < w.heap.size ∨ wr.heap.size ≤ y → y ∉ blk ta := fun y hy hm => by have := hta y hm; omega
  have nlb : ∀ y, H ≤ y → y < k5 ∨ w8.heap.size ≤ y → y ∉ blk lb := fun y h1 h2 hm => by rcases hlb y hm with h | h <;> omega
  have nwb : ∀ y, H ≤ y → y < k9 → y ∉ blk wb := fun y h1 h2 hm => by rcases hwb y hm with h | h <;> omega
  have ow8 : Ow wf B 22 lb (ln + 2) lbc (L ++ [.slice a n c, .slice a5 (n + 3) c5]) := by
    refine q1.fr p5 fun p hp => ?_
    have hm := mem_blk.2 ⟨p, hp, rfl⟩
    refine ⟨(q1.lt p hp).2.2.2, ?_⟩
    simp only [List.mem_cons, List.mem_append]
    rintro (h | h | h)
    · rcases hlb _ hm with h' | h' <;> omega
    · rcases hlb _ hm with h' | h'
      · exact H8 _ h'.1 h
      · exact nwa _ (by omega) h
    · rcases hlb _ hm with h' | h'
      · exact nta _ (.inl (by omega)) h
      · exact nta _ (.inr (by omega)) h
  refine ⟨⟨lb, ln + 2, lbc, wb, wbc, _, _, p2, ow8, p1, by omega, h5, by omega, fun x hx => ?_, fun x hx hm => ?_, fun i hi => ?_⟩, _, ff, fun x hx => ?_⟩
  · rcases List.mem_append.1 hx with hx | hx
    · rcases hlb x hx with h | h <;> exact ⟨by omega, by omega, by omega⟩
    · rcases hwb x hx with h | h <;> exact ⟨by omega, by omega, by omega⟩
  · rcases hlb x hx with h | h
    · rcases hwb x hm with h' | h'
      · exact H8 x h.1 h'.1
      · omega
    · exact nwb x (by omega) (by omega) hm
  · by_cases h1 : i < ln
    · obtain ⟨u, v, e1, e2, e3⟩ := H9 i h1
      refine ⟨u, v, by rw [List.getElem?_append_left (by omega)]; exact e1, by rw [List.getElem?_append_left (by omega)]; exact e2, e3.fr ff (by omega) (fun x hx => ?_) (by omega) (fun x hx => ?_)⟩
      · simp only [List.mem_cons, List.mem_append] at hx ⊢
        rcases hx with h | (h | h) | h
        · simp [h]
        · simp [h]
        · simp [h]
        · exact .inr (.inr (by have := ha x h; omega))
      · simp only [List.mem_cons, List.mem_append] at hx ⊢
        rcases hx with h | h | h
        · simp [h]
        · rcases hlb x h with h' | h'
          · simp [h'.1]
          · exact .inr (by omega)
        · rcases hwb x h with h' | h'
          · simp [h'.1]
          · exact .inr (by omega)
    · by_cases h2 : i = ln
      · subst h2
        refine ⟨_, _, by rw [List.getElem?_append_right (by omega), hL, Nat.sub_self]; rfl, by rw [List.getElem?_append_right (by omega), hW, Nat.sub_self]; rfl, ⟨a, n, c, ta, n, tc, mks M n, rfl, rfl, carry _ _ _ _ q3 fun y hy => ?_, p3, fun x hx => ?_⟩⟩
        · have := ha y hy
          exact ⟨by omega, nwa _ (by omega), nta _ (.inl (by omega)), by omega⟩
        · rcases List.mem_append.1 hx with hx | hx
          · have := ha x hx
            refine ⟨by omega, by omega, ?_⟩
            simp only [List.mem_cons, List.mem_append]
            rintro (h | h | h)
            · omega
            · exact nlb x (by omega) (.inl (by omega)) h
            · exact nwb x (by omega) (by omega) h
          · have := hta x hx
            refine ⟨by omega, by omega, ?_⟩
            simp only [List.mem_cons, List.mem_append]
            rintro (h | h | h)
            · omega
            · exact nlb x (by omega) (.inl (by omega)) h
            · exact nwb x (by omega) (by omega) h
      · obtain rfl : i = ln + 1 := by omega
        refine ⟨_, _, by rw [List.getElem?_append_right (by omega), hL, Nat.add_sub_cancel_left]; rfl, by rw [List.getElem?_append_right (by omega), hW, Nat.add_sub_cancel_left]; rfl, ⟨a5, n + 3, c5, a9, n + 3, c9, mks M n ++ x3, rfl, rfl, carry _ _ _ _ q4 fun y hy => ?_, p4, fun x hx => ?_⟩⟩
        · have := ha5 y hy
          exact ⟨by omega, nwa _ (by omega), nta _ (by omega), by omega⟩
        · rcases List.mem_append.1 hx with hx | hx
          · have := ha5 x hx
            refine ⟨by omega, by omega, ?_⟩
            simp only [List.mem_cons, List.mem_append]
            rintro (h | h | h)
            · omega
            · exact nlb x (by omega) (.inl (by omega)) h
            · exact nwb x (by omega) (by omega) h
          · have := ha9 x hx
            refine ⟨by omega, by omega, ?_⟩
            simp only [List.mem_cons, List.mem_append]
            rintro (h | h | h)
            · omega
            · exact nlb x (by omega) (by omega) h
            · exact nwb x (by omega) (by omega) h
  · simp only [List.mem_cons, List.mem_append] at hx
    rcases hx with h | (h | h) | h
    · left; omega
    · have := hla x h; left; omega
    · have := hwa x h; left; omega
    · have := ha x h; right; omega

set_option maxHeartbeats 1000000 in
theorem Note_any (w : World) (B H g N : Nat) (hbk : Bk w B H g N) (hN : N ≤ 1000) (H2 : Nat) (hH : H ≤ H2) (hH2 : H2 ≤ w.heap.size) (a : Option Addr) (n c : Nat) (l : List UInt8) (hl : Ow w H2 5 a n c (byts l)) (hn : n ≤ 2097152) :
    Calls Tryd.prog 21 #[.pointer (some ⟨g, 0, none⟩), .slice a n c] w fun e w' => e = .returned (.tuple #[]) ∧ Bk w' B w'.heap.size g (N + 2) ∧ ∃ S, Fr w.heap.size S w w' ∧ ∀ x ∈ S, (B ≤ x ∧ x < H) ∨ H2 ≤ x := by
  obtain ⟨la, ln, lc, wa, wq, L, W, h1, h2, h3, h4, h5, h6, h7, h8, h9⟩ := hbk.out
  have hc0 := h1.cell 0
  have hc1 := h1.cell 1
  simp only [List.getElem?_cons_zero, List.getElem?_cons_succ] at hc0 hc1
  have hlen := hl.sl.len
  rw [byts_length] at hlen
  have HL := hid hlen
  have H9 := hid h9
  have H7 := hid h7
  have H8 := hid h8
  have HBK := hid hbk
  clear hlen h9 h7 h8 hbk
  obtain ⟨i, hi, hz, hsz, hby⟩ := info_parts infoU8
  have JI := hid hi
  have JZ := hid hz
  have JS := hid hsz
  have JB := hid hby
  clear hi hz hsz hby
  obtain ⟨M, hM⟩ : ∃ M, M = ln * 29 + 7 := ⟨_, rfl⟩
  have e1 : (ln : Int) * 29 + 7 = (M : Int) := by omega
  have hMb : (M : Int) ≤ 1000000 := by omega
  clear hM
  have hbl : ∀ p, a = some p → H2 ≤ p.block ∧ p.block < w.heap.size := fun p hp => (hl.lt p hp).2.2
  have HBL := hid hbl
  clear hbl
  go_enter Tryd.func21, Tryd.ntmps21
  go_wp2
  go_loopw [5, 6] (fun x i wr => ∃ (k : Nat) (ta : Option Addr) (tc : Nat), k ≤ n ∧ i = .int .i64 k ∧ x = .slice ta k tc ∧ Ow wr w.heap.size 5 ta k tc (byts (mks M k)) ∧ Ow wr H2 5 a n c (byts (mks M k ++ l.drop k)) ∧ Fr w.heap.size (blk a) w wr) (fun _ i _ => n - (intOf i).toNat)
  case atStart => exact ⟨0, none, 0, by omega, rfl, rfl, Ow.nil _ _ _, by simpa [mks] using hl, Fr.refl _ _ _⟩
  case round =>
    obtain ⟨k, ta, tc, hk, rfl, rfl, hw, hlr, hfr⟩ := hrel
    by_cases hlt : k < n
    · have HF := hid hfr
      obtain ⟨gl, ol, hA⟩ := hlr.sl.addr (by omega)
      have hgl := hlr.lt _ hA
      simp only at hgl
      obtain ⟨-, rfl, hg1, hg2⟩ := hgl
      have hg3 := (HBL.out _ hA).2
      subst hA
      simp only at hg3
      have hlk : k < l.length := by rw [HL.out]; exact hlt
      have hcell := hlr.sl.at k hlt
      generalize hu : (byts (mks M k ++ l.drop k))[k]'_ = u at hcell
      clear hu
      rw [Nat.zero_add] at hcell
      have hfro := hlr.frozen k
      have hnext := hlr.setCell k hlt (byt (UInt8.ofNat (M + k)))
      have hset : Hid ((byts (mks M k ++ l.drop k)).set k (byt (UInt8.ofNat (M + k))) = byts (mks M (k + 1) ++ l.drop (k + 1))) := by
        show _ = _
        rw [byts, ← List.map_set, mks_set _ _ _ hlk]
        rfl
      rw [hset.out] at hnext
      have hval : byt (UInt8.ofNat (M + k)) = .int .u8 (((M : Int) + (k : Int)) % 256) := by
        simp only [byt, UInt8.toNat_ofNat']; congr 1
      have hfr2 : Fr w.heap.size [gl] w (wr.setCell ⟨gl, k, none⟩ (byt (UInt8.ofNat (M + k)))) := hfr.setCell (.inl (by simp [blk])) _
      have hw2 : Ow (wr.setCell ⟨gl, k, none⟩ (byt (UInt8.ofNat (M + k)))) w.heap.size 5 ta k tc (byts (mks M k)) := hw.fr (B' := wr.heap.size) (S := [gl]) ((Fr.refl _ _ _).setCell (.inl (by simp)) _) (fun p hp => by
        have := hw.lt p hp
        exact ⟨this.2.2.2, by simp; omega⟩)
      have MK := hid (mks_succ M k)
      have HV := hid hval
      rw [hval] at hnext hfr2 hw2
      clear hset hval hlr hw
      have e2 : IntKind.i64.wrap ((M : Int) + (k : Int)) = (M : Int) + (k : Int) := by rw [IntWalk.i64_in _ (by omega)]
      have htl : ∀ p, ta = some p → w.heap.size ≤ p.block := fun p hp => (hw2.lt p hp).2.2.1
      have HTL := hid htl
      have hsz2 := hfr2.size
      have hsz3 : w.heap.size ≤ wr.heap.size := HF.out.size
      clear htl
      go_wp2_with ((with_reducible show wpList _ _ _ (Oper.mk (some 34) _ _ _ _ _ :: _) _ _); refine wpList_app (by rfl) (.tmp 28) (.tmp 33) 22 (by rfl) w.heap.size 5 Tryd.underlying22 JI.out JZ.out JS.out JB.out (by rfl) (by rfl) (by rfl) (hw2.alloc _) (Blk.sl_all (cs := [.int .u8 (((M : Int) + (k : Int)) % 256)]) (by repeat (first | assumption | apply Blk.drew | exact Blk.new' _ _ (by first | rfl | (simp; done) | (simp; omega)) | apply Blk.alloc)) 1 (by rfl) (by omega)) (by simp; rfl) (by simp [maxLen]; omega) (by omega) (by simp; omega) ?_)
      intro ta' tc' w' how hf hn' hlie
      go_wp2
      go_roundw
      case rel =>
        refine ⟨k + 1, ta', tc', by omega, by go_num, rfl, ?_, ?_, ?_⟩
        · rw [MK.out, byts_append, show byts [UInt8.ofNat (M + k)] = [byt (UInt8.ofNat (M + k))] from rfl, HV.out]; exact how
        · refine (hnext.alloc _).fr hf (fun p hp => ?_)
          cases hp
          refine ⟨by show gl < _; first | omega | (simp; omega), fun hm => ?_⟩
          obtain ⟨q, hq, hq2⟩ := mem_blk.1 hm
          have := HTL.out q hq
          simp only at hq2
          omega
        · exact Fr.call (k := hf) (h := hfr2.alloc hsz2 _) (hB := by first | omega | (simp; omega)) (hS := fun x hx => by
            obtain ⟨q, hq, rfl⟩ := mem_blk.1 hx
            exact .inr (HTL.out q hq))
      case measure => simp [intOf] <;> omega
    · obtain rfl : k = n := by omega
      have HX := hid (UInt8.ofNat (M * 3 + 1)).toNat_lt
      obtain ⟨x, hx⟩ : ∃ x, x = UInt8.ofNat (M * 3 + 1) := ⟨_, rfl⟩
      have ex : (((M : Int) * 3 + 1) % 256) = (x.toNat : Int) := by
        rw [hx, UInt8.toNat_ofNat']; omega
      have hx8 := x.toNat_lt
      clear hx HX
      rw [List.drop_of_length_le (by rw [HL.out]; exact Nat.le_refl _), List.append_nil] at hlr
      have hls := HBL.out
      have ha : Hid (∀ x ∈ blk a, H2 ≤ x ∧ x < w.heap.size) := by
        intro x hx
        obtain ⟨p, hp, rfl⟩ := mem_blk.1 hx
        exact HBL.out p hp
      have hta : Hid (∀ x ∈ blk ta, w.heap.size ≤ x ∧ x < wr.heap.size) := by
        intro x hx
        obtain ⟨p, hp, rfl⟩ := mem_blk.1 hx
        exact (hw.lt p hp).2.2
      have far : Hid (∀ x, x < H → x < w.heap.size ∧ x ∉ blk a) := by
        intro x hx
        refine ⟨by omega, fun hm => ?_⟩
        have := ha.out x hm
        omega
      have hla : ∀ p, la = some p → p.block < w.heap.size ∧ p.block ∉ blk a := fun p hp => far.out _ (H7.out p.block (List.mem_append_left _ (mem_blk.2 ⟨p, hp, rfl⟩))).2.1
      have hwa : ∀ p, wa = some p → p.block < w.heap.size ∧ p.block ∉ blk a := fun p hp => far.out _ (H7.out p.block (List.mem_append_right _ (mem_blk.2 ⟨p, hp, rfl⟩))).2.1
      have r1 := h1.fr hfr (far.out g h6).1 (far.out g h6).2
      have r2 := h2.fr hfr hla
      have r3 := h3.fr hfr hwa
      have y0 := r1.cell 0
      have y1 := r1.cell 1
      simp only [List.getElem?_cons_zero, List.getElem?_cons_succ] at y0 y1
      obtain ⟨i2, hi, hz, hsz, hby⟩ := info_parts infoSl
      have KI := hid hi
      have KZ := hid hz
      have KS := hid hsz
      have KB := hid hby
      have hszr := hfr.size
      have R1 := hid r1
      have R2 := hid r2
      have R3 := hid r3
      have HLR := hid hlr
      have HW := hid hw
      have HFR := hid hfr
      clear hi hz hsz hby h1 h2 h3 hc0 hc1 hls hla hwa r1 r2 r3 hlr hw hl hfr
      have dA : Hid (∀ y ∈ blk a, y < wr.heap.size ∧ y ∉ blk la ∧ y ≠ g) := by
        intro y hy
        have h1 := ha.out y hy
        refine ⟨by omega, fun hm => ?_, by omega⟩
        have := H7.out y (List.mem_append_left _ hm)
        omega
      have dR : Hid (∀ y ∈ blk la, y < wr.heap.size ∧ y ≠ g) := by
        intro y hy
        have := H7.out y (List.mem_append_left _ hy)
        exact ⟨by omega, this.2.2⟩
      have gA : Hid (g < wr.heap.size ∧ g ∉ blk a ∧ g ∉ blk la) := ⟨by omega, fun hm => (dA.out g hm).2.2 rfl, fun hm => (dR.out g hm).2 rfl⟩
      go_upto_region 8 with (fail)
      rw [ex]
      go_cut [] from 39 to 54 (fun wx => ∃ (a5 : Option Addr) (c5 : Nat) (lb : Option Addr) (lbc : Nat), Ow wx B 22 lb (ln + 2) lbc (L ++ [.slice a k c, .slice a5 (k + 3) c5]) ∧ Blk wx g 31 [.slice lb (ln + 2) lbc, .slice wa ln wq] ∧ Sl wx a k c (byts (mks M k)) ∧ Sl wx a5 (k + 3) c5 (byts (mks M k ++ [x, x, x])) ∧ Fr wr.heap.size (g :: (blk la ++ blk a)) wr wx ∧
        ∃ k5, wr.heap.size ≤ k5 ∧ k5 ≤ wx.heap.size ∧ (∀ y ∈ blk a5, y ∈ blk a ∨ (wr.heap.size ≤ y ∧ y < k5)) ∧ (∀ y ∈ blk lb, y ∈ blk la ∨ (k5 ≤ y ∧ y < wx.heap.size)))
      case first =>
        have y0a : ∀ o : Obj, (wr.alloc o).cell? ⟨g, 0, none⟩ = some (.slice la ln lc) := fun o => Fr.cell_ext (w := wr) (by repeat (first | exact Fr.refl _ _ _ | assumption | apply Fr.drew | (refine Fr.drewN ?_ _) | (refine Fr.alloc ?_ (by first | omega | (simp; done) | (simp; omega)) _) | (refine Fr.setCell ?_ (by first | (left; simp; done) | (right; simp; done) | (right; simp; omega)) _))) y0
        go_region_law (first | ((with_reducible show (if Region.wanted (Oper.mk (some 50) _ _ _ _ _) _ = true then _ else _)); refine step_app2 (by rfl) (.tmp 45) (.tmp 49) 22 (by rfl) H2 5 Tryd.underlying22 JI.out JZ.out JS.out JB.out (by rfl) (by rfl) (by rfl) (HLR.out.ext (by repeat (first | exact Fr.refl _ _ _ | assumption | apply Fr.drew | (refine Fr.drewN ?_ _) | (refine Fr.alloc ?_ (by first | omega | (simp; done) | (simp; omega)) _) | (refine Fr.setCell ?_ (by first | (left; simp; done) | (right; simp; done) | (right; simp; omega)) _)))) (Blk.sl_all (cs := byts [x, x, x]) (by repeat (first | assumption | apply Blk.drew | exact Blk.new' _ _ (by first | rfl | (simp; done) | (simp; omega)) | apply Blk.alloc)) 3 (by rfl) (by omega)) (byts_oneCell _) (by simp [maxLen]; omega) (by omega) (by simp; omega) ?_; intro a5 c5 w5 how5 keep5 f5 hn5 l5; have fw5 : Fr wr.heap.size (blk a) wr w5 := (Fr.call (k := f5) (h := (by repeat (first | exact Fr.refl _ _ _ | assumption | apply Fr.drew | (refine Fr.drewN ?_ _) | (refine Fr.alloc ?_ (by first | omega | (simp; done) | (simp; omega)) _) | (refine Fr.setCell ?_ (by first | (left; simp; done) | (right; simp; done) | (right; simp; omega)) _)))) (hB := by simp) (hS := fun y hy => .inl hy)); have z5 := (R1.out.fr fw5 gA.out.1 gA.out.2.1).cell 0; simp only [List.getElem?_cons_zero] at z5; have z5a : ∀ o : Obj, (w5.alloc o).cell? ⟨g, 0, none⟩ = some (.slice la ln lc) := fun o => Fr.cell_ext (w := w5) (by repeat (first | exact Fr.refl _ _ _ | assumption | apply Fr.drew | (refine Fr.drewN ?_ _) | (refine Fr.alloc ?_ (by first | omega | (simp; done) | (simp; omega)) _) | (refine Fr.setCell ?_ (by first | (left; simp; done) | (right; simp; done) | (right; simp; omega)) _))) z5) | ((with_reducible show (if Region.wanted (Oper.mk (some 52) _ _ _ _ _) _ = true then _ else _)); have b5 := R1.out.fr fw5 gA.out.1 gA.out.2.1; have r2 : Ow w5 B 22 la ln lc L := R2.out.fr fw5 (fun p hp => ⟨(dR.out p.block (mem_blk.2 ⟨p, hp, rfl⟩)).1, fun hm => (dA.out _ hm).2.1 (mem_blk.2 ⟨p, hp, rfl⟩)⟩); refine step_app (by rfl) (.tmp 43) (.tmp 51) 29 (by rfl) B 22 Tryd.underlying29 KI.out KZ.out KS.out KB.out (by rfl) (by rfl) (by rfl) (r2.ext (by repeat (first | exact Fr.refl _ _ _ | assumption | apply Fr.drew | (refine Fr.drewN ?_ _) | (refine Fr.alloc ?_ (by first | omega | (simp; done) | (simp; omega)) _) | (refine Fr.setCell ?_ (by first | (left; simp; done) | (right; simp; done) | (right; simp; omega)) _)))) (Blk.sl_all (cs := [.slice a k c, .slice a5 (k + 3) c5]) (by repeat (first | assumption | apply Blk.drew | exact Blk.new' _ _ (by first | rfl | (simp; done) | (simp; omega)) | apply Blk.alloc)) 2 (by rfl) (by omega)) (by simp; exact ⟨rfl, rfl⟩) (by simp [maxLen]; omega) (by omega) (by have := fw5.size; simp; omega) ?_; intro lb lbc w6 how6 f7 hn6 l7; have fw6 : Fr w5.heap.size (blk la) w5 w6 := (Fr.call (k := f7) (h := (by repeat (first | exact Fr.refl _ _ _ | assumption | apply Fr.drew | (refine Fr.drewN ?_ _) | (refine Fr.alloc ?_ (by first | omega | (simp; done) | (simp; omega)) _) | (refine Fr.setCell ?_ (by first | (left; simp; done) | (right; simp; done) | (right; simp; omega)) _)))) (hB := by simp) (hS := fun y hy => .inl hy)); have b6 := b5.fr fw6 (by have := fw5.size; have := gA.out.1; omega) gA.out.2.2; have z6 := b6.cell 0; have fz6 := b6.frozen 0; simp only [List.getElem?_cons_zero] at z6))
        all_goals go_wp2_with fail
        all_goals go_meet
        all_goals
          have hh := note_half (j := 0) (v := .slice lb (ln + 2) lbc) (xs := mks M k) (ys := mks M k ++ [x, x, x]) (f5 := f5) (f7 := f7) (f1 := (by repeat (first | exact Fr.refl _ _ _ | assumption | apply Fr.drew | (refine Fr.drewN ?_ _) | (refine Fr.alloc ?_ (by first | omega | (simp; done) | (simp; omega)) _) | (refine Fr.setCell ?_ (by first | (left; simp; done) | (right; simp; done) | (right; simp; omega)) _)))) (f6 := (by repeat (first | exact Fr.refl _ _ _ | assumption | apply Fr.drew | (refine Fr.drewN ?_ _) | (refine Fr.alloc ?_ (by first | omega | (simp; done) | (simp; omega)) _) | (refine Fr.setCell ?_ (by first | (left; simp; done) | (right; simp; done) | (right; simp; omega)) _)))) (how5 := by rw [byts_append]; exact how5) (keep5 := keep5) (l5 := l5) (how6 := how6) (l7 := l7) (da := dA.out) (dr := dR.out) (hg := R1.out) R2.out
          exact ⟨a5, c5, lb, lbc, hh⟩
      case rest =>
        obtain ⟨a5, c5, lb, lbc, q1, q2, q3, q4, q5, q6⟩ := hcut
        have hta' := hta.out
        have ha' := ha.out
        have sz8 := q5.size
        have nS : Hid (∀ x, (H ≤ x ∧ x < wr.heap.size ∧ x ∉ blk a) ∨ x ∈ blk wa → x ∉ g :: (blk la ++ blk a)) := by
          intro y hy hm
          simp only [List.mem_cons, List.mem_append] at hm
          rcases hy with ⟨h1, h2, h3⟩ | hy
          · rcases hm with h | h | h
            · omega
            · have := H7.out y (List.mem_append_left _ h); omega
            · exact h3 h
          · have hw := H7.out y (List.mem_append_right _ hy)
            rcases hm with h | h | h
            · exact hw.2.2 h
            · exact H8.out y h hy
            · have := ha' y h; omega
        have v3 : Hid (Ow wc B 22 wa ln wq W) := R3.out.fr q5 fun p hp => by
          have hm := mem_blk.2 ⟨p, hp, rfl⟩
          have := H7.out _ (List.mem_append_right _ hm)
          exact ⟨by omega, nS.out _ (.inr hm)⟩
        have vW : Hid (Ow wc w.heap.size 5 ta k tc (byts (mks M k))) := HW.out.fr q5 fun p hp => by
          have hm := mem_blk.2 ⟨p, hp, rfl⟩
          have := hta' _ hm
          exact ⟨by omega, nS.out _ (.inl ⟨by omega, by omega, fun h => by have := ha' _ h; omega⟩)⟩
        have dA2 : Hid (∀ y ∈ blk ta, y < wc.heap.size ∧ y ∉ blk wa ∧ y ≠ g) := by
          intro y hy
          have h1 := hta' y hy
          refine ⟨by omega, fun hm => ?_, by omega⟩
          have := H7.out y (List.mem_append_right _ hm)
          omega
        have dR2 : Hid (∀ y ∈ blk wa, y < wc.heap.size ∧ y ≠ g) := by
          intro y hy
          have := H7.out y (List.mem_append_right _ hy)
          exact ⟨by omega, this.2.2⟩
        have gA2 : Hid (g < wc.heap.size ∧ g ∉ blk ta ∧ g ∉ blk wa) := ⟨by omega, fun hm => (dA2.out g hm).2.2 rfl, fun hm => (dR2.out g hm).2 rfl⟩
        have Q2 := hid q2
        have c0 := q2.cell 0
        have c1 := q2.cell 1
        simp only [List.getElem?_cons_zero, List.getElem?_cons_succ] at c0 c1
        have y1a : ∀ o : Obj, (wc.alloc o).cell? ⟨g, 1, none⟩ = some (.slice wa ln wq) := fun o => Fr.cell_ext (w := wc) (by repeat (first | exact Fr.refl _ _ _ | assumption | apply Fr.drew | (refine Fr.drewN ?_ _) | (refine Fr.alloc ?_ (by first | omega | (simp; done) | (simp; omega)) _) | (refine Fr.setCell ?_ (by first | (left; simp; done) | (right; simp; done) | (right; simp; omega)) _))) c1
        have Q1 := hid q1
        have Q3 := hid q3
        have Q4 := hid q4
        have Q5 := hid q5
        have Q6 := hid q6
        have HLL : Hid (L.length = ln) := R2.out.sl.len
        have HWL : Hid (W.length = ln) := R3.out.sl.len
        clear q1 q2 q3 q4 q5 q6 y0 y1 hta' ha'
        go_upto_region 9 with (fail)
        go_region_law (first | ((with_reducible show (if Region.wanted (Oper.mk (some 66) _ _ _ _ _) _ = true then _ else _)); refine step_app2 (by rfl) (.tmp 61) (.tmp 65) 22 (by rfl) w.heap.size 5 Tryd.underlying22 JI.out JZ.out JS.out JB.out (by rfl) (by rfl) (by rfl) (vW.out.ext (by repeat (first | exact Fr.refl _ _ _ | assumption | apply Fr.drew | (refine Fr.drewN ?_ _) | (refine Fr.alloc ?_ (by first | omega | (simp; done) | (simp; omega)) _) | (refine Fr.setCell ?_ (by first | (left; simp; done) | (right; simp; done) | (right; simp; omega)) _)))) (Blk.sl_all (cs := byts [x, x, x]) (by repeat (first | assumption | apply Blk.drew | exact Blk.new' _ _ (by first | rfl | (simp; done) | (simp; omega)) | apply Blk.alloc)) 3 (by rfl) (by omega)) (byts_oneCell _) (by simp [maxLen]; omega) (by omega) (by simp; omega) ?_; intro a9 c9 w5 how5 keep5 f5 hn5 l5; have fw5 : Fr wc.heap.size (blk ta) wc w5 := (Fr.call (k := f5) (h := (by repeat (first | exact Fr.refl _ _ _ | assumption | apply Fr.drew | (refine Fr.drewN ?_ _) | (refine Fr.alloc ?_ (by first | omega | (simp; done) | (simp; omega)) _) | (refine Fr.setCell ?_ (by first | (left; simp; done) | (right; simp; done) | (right; simp; omega)) _)))) (hB := by simp) (hS := fun y hy => .inl hy)); have z5 := (Q2.out.fr fw5 gA2.out.1 gA2.out.2.1).cell 1; simp only [List.getElem?_cons_zero, List.getElem?_cons_succ] at z5; have z5a : ∀ o : Obj, (w5.alloc o).cell? ⟨g, 1, none⟩ = some (.slice wa ln wq) := fun o => Fr.cell_ext (w := w5) (by repeat (first | exact Fr.refl _ _ _ | assumption | apply Fr.drew | (refine Fr.drewN ?_ _) | (refine Fr.alloc ?_ (by first | omega | (simp; done) | (simp; omega)) _) | (refine Fr.setCell ?_ (by first | (left; simp; done) | (right; simp; done) | (right; simp; omega)) _))) z5) | ((with_reducible show (if Region.wanted (Oper.mk (some 68) _ _ _ _ _) _ = true then _ else _)); have b5 := Q2.out.fr fw5 gA2.out.1 gA2.out.2.1; have r2 : Ow w5 B 22 wa ln wq W := v3.out.fr fw5 (fun p hp => ⟨(dR2.out p.block (mem_blk.2 ⟨p, hp, rfl⟩)).1, fun hm => (dA2.out _ hm).2.1 (mem_blk.2 ⟨p, hp, rfl⟩)⟩); refine step_app (by rfl) (.tmp 59) (.tmp 67) 29 (by rfl) B 22 Tryd.underlying29 KI.out KZ.out KS.out KB.out (by rfl) (by rfl) (by rfl) (r2.ext (by repeat (first | exact Fr.refl _ _ _ | assumption | apply Fr.drew | (refine Fr.drewN ?_ _) | (refine Fr.alloc ?_ (by first | omega | (simp; done) | (simp; omega)) _) | (refine Fr.setCell ?_ (by first | (left; simp; done) | (right; simp; done) | (right; simp; omega)) _)))) (Blk.sl_all (cs := [.slice ta k tc, .slice a9 (k + 3) c9]) (by repeat (first | assumption | apply Blk.drew | exact Blk.new' _ _ (by first | rfl | (simp; done) | (simp; omega)) | apply Blk.alloc)) 2 (by rfl) (by omega)) (by simp; exact ⟨rfl, rfl⟩) (by simp [maxLen]; omega) (by omega) (by have := fw5.size; simp; omega) ?_; intro wb wbc w6 how6 f7 hn6 l7; have fw6 : Fr w5.heap.size (blk wa) w5 w6 := (Fr.call (k := f7) (h := (by repeat (first | exact Fr.refl _ _ _ | assumption | apply Fr.drew | (refine Fr.drewN ?_ _) | (refine Fr.alloc ?_ (by first | omega | (simp; done) | (simp; omega)) _) | (refine Fr.setCell ?_ (by first | (left; simp; done) | (right; simp; done) | (right; simp; omega)) _)))) (hB := by simp) (hS := fun y hy => .inl hy)); have b6 := b5.fr fw6 (by have := fw5.size; have := gA2.out.1; omega) gA2.out.2.2; have z6 := b6.cell 1; have fz6 := b6.frozen 1; simp only [List.getElem?_cons_zero, List.getElem?_cons_succ] at z6))
        all_goals go_wp2_with fail
        all_goals go_end0
        all_goals
          have hh := note_half (j := 1) (v := .slice wb (ln + 2) wbc) (xs := mks M k) (ys := mks M k ++ [x, x, x]) (f5 := f5) (f7 := f7) (f1 := (by repeat (first | exact Fr.refl _ _ _ | assumption | apply Fr.drew | (refine Fr.drewN ?_ _) | (refine Fr.alloc ?_ (by first | omega | (simp; done) | (simp; omega)) _) | (refine Fr.setCell ?_ (by first | (left; simp; done) | (right; simp; done) | (right; simp; omega)) _)))) (f6 := (by repeat (first | exact Fr.refl _ _ _ | assumption | apply Fr.drew | (refine Fr.drewN ?_ _) | (refine Fr.alloc ?_ (by first | omega | (simp; done) | (simp; omega)) _) | (refine Fr.setCell ?_ (by first | (left; simp; done) | (right; simp; done) | (right; simp; omega)) _)))) (how5 := by rw [byts_append]; exact how5) (keep5 := keep5) (l5 := l5) (how6 := how6) (l7 := l7) (da := dA2.out) (dr := dR2.out) (hg := Q2.out) v3.out
          exact ⟨rfl, note_end hH hH2 h4 h5 h6 HLL.out HWL.out H7.out H8.out H9.out ha.out hta.out HFR.out Q1.out Q3.out Q4.out Q5.out Q6.out hh.1 hh.2.1 hh.2.2.1 hh.2.2.2.1 hh.2.2.2.2.1 hh.2.2.2.2.2⟩
end Go.Proofs.YtipmfbpomhcfcaaDoor
