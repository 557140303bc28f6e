import Derived.WalkKit
import Derived.WalkLawsBesides
import Derived.WalkSpells
import Derived.Deep.RegionHeld3
import Derived.Deep.QuietTactic
import Derived.BigQuiet
import Derived.Deep.AppendLies
import Derived.Laws.CopyOwn
import Derived.Maps.AppendAt
import Derived.Lib.ConvBytes
/- Words of our own for memory that is read, owned, and left alone: frames between worlds, slices that read as lists, rows that are owned. No program in sight. -/
set_option linter.unusedVariables false
set_option linter.unusedSimpArgs false
namespace Go.Le
open Go Go.RowKit

/-- a fact kept from the walk -/
theorem hid {p : Prop} (h : p) : Hid p := h

/-- the cell of a byte -/
def byt (x : UInt8) : Value := .int .u8 (x.toNat : Int)
def byts (l : List UInt8) : List Value := l.map byt

theorem byts_length (l : List UInt8) : (byts l).length = l.length := by simp [byts]
theorem byts_append (l r : List UInt8) : byts (l ++ r) = byts l ++ byts r := by simp [byts]
theorem byts_oneCell (l : List UInt8) : ∀ v ∈ byts l, v.oneCell' = true := by
  intro v hv
  simp only [byts, List.mem_map] at hv
  obtain ⟨x, _, rfl⟩ := hv
  rfl
/-- FRAME: below block B, but for the blocks of S, the world w' is as w was. -/
structure Fr (B : Nat) (S : List Nat) (w w' : World) : Prop where
  os : w'.os = w.os
  tape : w'.tape = w.tape
  output : w'.output = w.output
  size : w.heap.size ≤ w'.heap.size
  block : ∀ k, k < B → k ∉ S → w'.heap[k]? = w.heap[k]?

theorem Fr.refl (B : Nat) (S : List Nat) (w : World) : Fr B S w w := ⟨rfl, rfl, rfl, Nat.le_refl _, fun _ _ _ => rfl⟩
theorem Fr.trans {B : Nat} {S : List Nat} {a b c : World} (h : Fr B S a b) (k : Fr B S b c) : Fr B S a c :=
  ⟨k.os.trans h.os, k.tape.trans h.tape, k.output.trans h.output, Nat.le_trans h.size k.size, fun i hi hs => (k.block i hi hs).trans (h.block i hi hs)⟩
/-- a callee's frame, inside the caller's: its own B' is no lower, and what it may write is the caller's to write -/
theorem Fr.call {B B' : Nat} {S S' : List Nat} {a b c : World} (h : Fr B S a b) (k : Fr B' S' b c) (hB : B ≤ B') (hS : ∀ x ∈ S', x ∈ S ∨ B ≤ x) : Fr B S a c :=
  h.trans ⟨k.os, k.tape, k.output, k.size, fun i hi hs => k.block i (by omega) (fun hm => by
    rcases hS i hm with h1 | h1
    · exact hs h1
    · omega)⟩
theorem Fr.call' {S S' : List Nat} {a b c : World} (h : Fr a.heap.size S a b) (k : Fr b.heap.size S' b c) (hS : ∀ x ∈ S', x ∈ S ∨ a.heap.size ≤ x) : Fr a.heap.size S a c := h.call k h.size hS
theorem Fr.mono {B B' : Nat} {S S' : List Nat} {a b : World} (h : Fr B S a b) (hB : B' ≤ B) (hS : ∀ x ∈ S, x ∈ S' ∨ B' ≤ x) : Fr B' S' a b :=
  (Fr.refl B' S' a).call h hB hS
theorem Fr.drew {B : Nat} {S : List Nat} {a w : World} (h : Fr B S a w) : Fr B S a w.drew := ⟨h.os, h.tape, h.output, h.size, h.block⟩
theorem Fr.drewN {B : Nat} {S : List Nat} {a w : World} (h : Fr B S a w) (n : Nat) : Fr B S a (w.drewN n) := ⟨h.os, h.tape, h.output, h.size, h.block⟩
theorem Fr.alloc {B : Nat} {S : List Nat} {a w : World} (h : Fr B S a w) (hB : B ≤ w.heap.size) (o : Obj) : Fr B S a (w.alloc o) :=
  h.trans ⟨rfl, rfl, rfl, by simp, fun k hk _ => Below.heap_alloc _ _ _ (by omega)⟩
theorem Fr.setCell {B : Nat} {S : List Nat} {a w : World} (h : Fr B S a w) {p : Addr} (hp : p.block ∈ S ∨ B ≤ p.block) (u : Value) : Fr B S a (w.setCell p u) :=
  h.trans ⟨rfl, rfl, rfl, by simp [World.setCell], fun k hk hs => heap_setCell_other _ _ _ _ (by
    rintro rfl
    rcases hp with hp | hp
    · exact hs hp
    · omega)⟩
theorem Fr.below {B B' : Nat} {S : List Nat} {a w w' : World} (h : Fr B S a w) (hb : Below B' w w') (hB : B ≤ B') : Fr B S a w' :=
  h.trans ⟨hb.os, hb.tape, hb.output, hb.size, fun k hk _ => hb.block k (by omega)⟩
theorem Fr.grown {B : Nat} {S : List Nat} {a w w' : World} {row : Option Nat} (h : Fr B S a w) (hg : w.grownBy w' row) (hB : B ≤ w.heap.size) (hr : ∀ k, row = some k → k ∈ S ∨ B ≤ k) : Fr B S a w' :=
  h.trans ⟨hg.os, hg.tape, hg.output, hg.size, fun k hk hs => hg.block k (by omega) (fun e => by
    rcases hr k e.symm with h1 | h1
    · exact hs h1
    · omega)⟩
theorem Fr.toBelow {B : Nat} {a w : World} (h : Fr B [] a w) : Below B a w := ⟨h.os, h.tape, h.output, h.size, fun k hk => h.block k hk (by simp)⟩
theorem Fr.cell {B : Nat} {S : List Nat} {w w' : World} (h : Fr B S w w') {p : Addr} (hp : p.block < B) (hs : p.block ∉ S) : w'.cell? p = w.cell? p := World.cell?_of_block (h.block _ hp hs)
theorem Fr.frozen {B : Nat} {S : List Nat} {w w' : World} (h : Fr B S w w') {p : Addr} (hp : p.block < B) (hs : p.block ∉ S) : w'.frozen? p = w.frozen? p := World.frozen?_of_block (h.block _ hp hs)
/-- a cell of the world ahead of the call, where nothing old was written -/
theorem Fr.cell_ext {w w' : World} (h : Fr w.heap.size [] w w') {p : Addr} {v : Value} (hp : w.cell? p = some v) : w'.cell? p = some v := by
  rw [h.cell (World.block_lt_of_cell? w p hp) (by simp)]; exact hp
theorem Fr.heap_ext {w w' : World} (h : Fr w.heap.size [] w w') {g : Nat} {o : Obj} (hp : w.heap[g]? = some o) : w'.heap[g]? = some o := by
  rw [h.block g (Array.getElem?_eq_some_iff.1 hp).1 (by simp)]; exact hp
theorem Fr.heap {B : Nat} {S : List Nat} {w w' : World} (h : Fr B S w w') {g : Nat} {o : Obj} (hp : w.heap[g]? = some o) (hB : g < B) (hs : g ∉ S) : w'.heap[g]? = some o := by
  rw [h.block g hB hs]; exact hp
theorem lt_of_heap {w : World} {g : Nat} {o : Obj} (hp : w.heap[g]? = some o) : g < w.heap.size := (Array.getElem?_eq_some_iff.1 hp).1

/-- A SLICE THAT READS AS A LIST (elements of one cell each): address a, length n, capacity c. -/
structure Sl (w : World) (a : Option Addr) (n c : Nat) (xs : List Value) : Prop where
  len : xs.length = n
  le : n ≤ c
  cap : c ≤ 9223372036854775807
  nil : a = none → c = 0
  spot : ∀ p, a = some p → 0 < c → p.spot = none
  cell : ∀ i, i < n → ∀ p, a = some p → w.cell? ⟨p.block, p.off + i, none⟩ = xs[i]?

theorem Sl.nil' (w : World) : Sl w none 0 0 [] := ⟨rfl, Nat.le_refl _, by omega, (fun _ => rfl), (fun _ h _ => by cases h), (fun _ h => by omega)⟩

theorem Sl.addr {w : World} {a : Option Addr} {n c : Nat} {xs : List Value} (h : Sl w a n c xs) (hn : 0 < n) : ∃ b o, a = some ⟨b, o, none⟩ := by
  cases a with
  | none => have := h.nil rfl; have := h.le; omega
  | some p =>
    have := h.spot p rfl (by have := h.le; omega)
    exact ⟨p.block, p.off, by cases p; simp_all⟩

theorem Sl.at {w : World} {b o n c : Nat} {xs : List Value} (h : Sl w (some ⟨b, o, none⟩) n c xs) (i : Nat) (hi : i < n) : w.cell? ⟨b, o + i, none⟩ = some (xs[i]'(by rw [h.len]; exact hi)) := by
  have := h.cell i hi _ rfl
  rw [this, List.getElem?_eq_getElem]

/-- where nothing of its block has turned, it reads as it did -/
theorem Sl.fr {w w' : World} {a : Option Addr} {n c : Nat} {xs : List Value} (h : Sl w a n c xs) {B : Nat} {S : List Nat} (hf : Fr B S w w') (hb : ∀ p, a = some p → p.block < B ∧ p.block ∉ S) : Sl w' a n c xs :=
  ⟨h.len, h.le, h.cap, h.nil, h.spot, fun i hi p hp => by
    rw [hf.cell (p := ⟨p.block, p.off + i, none⟩) (hb p hp).1 (hb p hp).2]
    exact h.cell i hi p hp⟩
theorem Sl.ext {w w' : World} {a : Option Addr} {n c : Nat} {xs : List Value} (h : Sl w a n c xs) (hf : Fr w.heap.size [] w w') : Sl w' a n c xs :=
  ⟨h.len, h.le, h.cap, h.nil, h.spot, fun i hi p hp => by
    have hc := h.cell i hi p hp
    have hlt : i < xs.length := by rw [h.len]; exact hi
    rw [List.getElem?_eq_getElem hlt] at hc ⊢
    exact hf.cell_ext hc⟩
/-- a cut of a slice -/
theorem Sl.cut {w : World} {a : Option Addr} {n c : Nat} {xs : List Value} (h : Sl w a n c xs) (l r : Nat) (hl : l ≤ r) (hr : r ≤ n) (a' : Option Addr) (ha : a' = if c = l then a else a.map (·.add l)) : Sl w a' (r - l) (c - l) ((xs.take r).drop l) := by
  have hle := h.le
  refine ⟨by simp [h.len]; omega, by omega, by have := h.cap; omega, ?_, ?_, ?_⟩
  · intro he
    subst ha
    split at he
    · have := h.nil he; omega
    · cases a with
      | none => have := h.nil rfl; omega
      | some p => simp at he
  · intro p hp hcp
    subst ha
    split at hp
    · omega
    · cases a with
      | none => simp at hp
      | some q =>
        simp only [Option.map_some, Option.some.injEq] at hp
        subst hp
        have := h.spot q rfl (by omega)
        unfold Addr.add
        split <;> simp_all
  · intro i hi p hp
    have hcl : c ≠ l := by omega
    rw [if_neg hcl] at ha
    cases a with
    | none => subst ha; simp at hp
    | some q =>
      subst ha
      simp only [Option.map_some, Option.some.injEq] at hp
      subst hp
      have hc := h.cell (l + i) (by omega) q rfl
      have e1 : (q.add l).block = q.block := by unfold Addr.add; split <;> rfl
      have e2 : (q.add l).off = q.off + l := by unfold Addr.add; split <;> simp_all
      rw [e1, e2, Nat.add_assoc, hc, List.getElem?_drop, List.getElem?_take, if_pos (by omega)]

/-- the same, its numbers given -/
theorem Sl.cut2 {w : World} {a : Option Addr} {n c : Nat} {xs : List Value} (h : Sl w a n c xs) (l r : Nat) (a' : Option Addr) (n' c' : Nat) (hl : l ≤ r) (hr : r ≤ n) (ha : a' = if c = l then a else a.map (·.add l)) (hn : n' = r - l) (hc : c' = c - l) : Sl w a' n' c' ((xs.take r).drop l) := by
  subst hn; subst hc; exact h.cut l r hl hr a' ha

/-- a block that is known whole, and none of its cells is frozen -/
def Blk (w : World) (g : Nat) (e : TypeId) (cs : List Value) : Prop := ∃ m : Nat × Nat, w.heap[g]? = some (.cells cs.toArray e m) ∧ ∀ i, i < cs.length → i < m.1 ∨ m.2 ≤ i
theorem Blk.of {w : World} {g : Nat} {e : TypeId} {cs : List Value} (h : w.heap[g]? = some (.cells cs.toArray e (0, 0))) : Blk w g e cs := ⟨_, h, fun _ _ => .inr (Nat.zero_le _)⟩
theorem Blk.lt {w : World} {g : Nat} {e : TypeId} {cs : List Value} (h : Blk w g e cs) : g < w.heap.size := h.elim fun _ h => lt_of_heap h.1
theorem Blk.cell {w : World} {g : Nat} {e : TypeId} {cs : List Value} (h : Blk w g e cs) (i : Nat) : w.cell? ⟨g, i, none⟩ = cs[i]? := by
  obtain ⟨m, h, -⟩ := h
  rw [cell_of_row w g i cs.toArray e m h]; simp
theorem Blk.frozen {w : World} {g : Nat} {e : TypeId} {cs : List Value} (h : Blk w g e cs) (i : Nat) (hi : i < cs.length := by first | assumption | exact Nat.le_of_ble_eq_true rfl | (simp; done) | (simp; omega)) : w.frozen? ⟨g, i, none⟩ = false := by
  obtain ⟨m, h, hm⟩ := h
  have := hm i hi
  simp only [World.frozen?, h, Bool.and_eq_false_iff, decide_eq_false_iff_not]
  omega
theorem Blk.ext {w w' : World} {g : Nat} {e : TypeId} {cs : List Value} (h : Blk w g e cs) (hf : Fr w.heap.size [] w w') : Blk w' g e cs := h.elim fun m h => ⟨m, hf.heap_ext h.1, h.2⟩
theorem Blk.fr {w w' : World} {g : Nat} {e : TypeId} {cs : List Value} (h : Blk w g e cs) {B : Nat} {S : List Nat} (hf : Fr B S w w') (hB : g < B) (hs : g ∉ S) : Blk w' g e cs := h.elim fun m h => ⟨m, hf.heap h.1 hB hs, h.2⟩
theorem Blk.new (w : World) (cs : List Value) (e : TypeId) : Blk (w.alloc (.cells cs.toArray e)) w.heap.size e cs := .of (heap_alloc_new w _)
theorem Blk.drew {w : World} {g : Nat} {e : TypeId} {cs : List Value} (h : Blk w g e cs) : Blk w.drew g e cs := h
theorem Blk.alloc {w : World} {g : Nat} {e : TypeId} {cs : List Value} (h : Blk w g e cs) (o : Obj) : Blk (w.alloc o) g e cs := by
  have hl := h.lt
  obtain ⟨m, h, hm⟩ := h
  exact ⟨m, by rw [Below.heap_alloc w o g hl]; exact h, hm⟩
theorem Blk.setCell {w : World} {g : Nat} {e : TypeId} {cs : List Value} (h : Blk w g e cs) (i : Nat) (v : Value) : Blk (w.setCell ⟨g, i, none⟩ v) g e (cs.set i v) := by
  obtain ⟨m, h, hm⟩ := h
  refine ⟨m, ?_, by simpa using hm⟩
  rw [setCell_eq_setRow w g i cs.toArray e m v h, setRow_heap w g _ _ e m h]
  simp
/-- a slice of such a block -/
theorem Blk.sl {w : World} {g : Nat} {e : TypeId} {cs : List Value} (h : Blk w g e cs) (o n c : Nat) (hn : n ≤ c) (hc : o + n ≤ cs.length) (hm : c ≤ 9223372036854775807) : Sl w (some ⟨g, o, none⟩) n c ((cs.drop o).take n) :=
  ⟨by simp; omega, hn, hm, (fun h => by cases h), (fun p hp _ => by cases hp; rfl), fun i hi p hp => by
    cases hp
    rw [h.cell (o + i)]
    simp [hi]⟩
/-- AN OWNED ROW (elements of one cell each), from block B on: nil, or a block of its own, begun with xs. -/
def Ow (w : World) (B : Nat) (e : TypeId) (a : Option Addr) (n c : Nat) (xs : List Value) : Prop := w.ownsRow B e 1 (.slice a n c) n xs

theorem Ow.sl {w : World} {B : Nat} {e : TypeId} {a : Option Addr} {n c : Nat} {xs : List Value} (h : Ow w B e a n c xs) : Sl w a n c xs := by
  obtain ⟨h1, h2⟩ := h
  rcases h2 with ⟨hv, hn⟩ | ⟨g, cap, cur, hv, hB, hg, hle, hmax, hsz, htk⟩
  · simp only [Value.slice.injEq] at hv
    obtain ⟨rfl, rfl, rfl⟩ := hv
    have : xs = [] := List.eq_nil_of_length_eq_zero (by simpa using h1)
    subst this
    exact Sl.nil' w
  · simp only [Value.slice.injEq] at hv
    obtain ⟨rfl, -, rfl⟩ := hv
    refine ⟨by simpa using h1, hle, by unfold maxLen at hmax; exact hmax, (fun h => by cases h), (fun p hp _ => by cases hp; rfl), fun i hi p hp => ?_⟩
    cases hp
    rw [cell_of_row w g (0 + i) cur e (0, 0) hg, ← htk, List.getElem?_take, if_pos (by omega)]
    simp
theorem Ow.fr {w w' : World} {B : Nat} {e : TypeId} {a : Option Addr} {n c : Nat} {xs : List Value} (h : Ow w B e a n c xs) {B' : Nat} {S : List Nat} (hf : Fr B' S w w') (hb : ∀ p, a = some p → p.block < B' ∧ p.block ∉ S) : Ow w' B e a n c xs := by
  obtain ⟨h1, h2⟩ := h
  refine ⟨h1, ?_⟩
  rcases h2 with h2 | ⟨g, cap, cur, hv, hB, hg, r⟩
  · exact .inl h2
  · refine .inr ⟨g, cap, cur, hv, hB, ?_, r⟩
    simp only [Value.slice.injEq] at hv
    have := hb _ hv.1
    exact hf.heap hg this.1 this.2
theorem Ow.ext {w w' : World} {B : Nat} {e : TypeId} {a : Option Addr} {n c : Nat} {xs : List Value} (h : Ow w B e a n c xs) (hf : Fr w.heap.size [] w w') : Ow w' B e a n c xs := by
  obtain ⟨h1, h2⟩ := h
  refine ⟨h1, ?_⟩
  rcases h2 with h2 | ⟨g, cap, cur, hv, hB, hg, r⟩
  · exact .inl h2
  · exact .inr ⟨g, cap, cur, hv, hB, hf.heap_ext hg, r⟩
theorem Ow.lt {w : World} {B : Nat} {e : TypeId} {a : Option Addr} {n c : Nat} {xs : List Value} (h : Ow w B e a n c xs) : ∀ p, a = some p → p.spot = none ∧ p.off = 0 ∧ B ≤ p.block ∧ p.block < w.heap.size := by
  intro p hp
  subst hp
  rcases h.2 with ⟨hv, _⟩ | ⟨g, cap, cur, hv, hB, hg, _⟩
  · simp at hv
  · simp only [Value.slice.injEq, Option.some.injEq] at hv
    obtain ⟨rfl, -, -⟩ := hv
    exact ⟨rfl, rfl, hB, lt_of_heap hg⟩

/-- A SLICE OF SLICES OF BYTES that reads as a list of lists. -/
structure SlL (w : World) (a : Option Addr) (n c : Nat) (ls : List (List UInt8)) : Prop where
  out : ∃ vs, Sl w a n c vs ∧ vs.length = ls.length ∧ ∀ i (h : i < ls.length), ∃ a' n' c', vs[i]? = some (.slice a' n' c') ∧ Sl w a' n' c' (byts ls[i])
theorem SlL.len {w : World} {a : Option Addr} {n c : Nat} {ls : List (List UInt8)} (h : SlL w a n c ls) : ls.length = n := by
  obtain ⟨vs, h1, h2, _⟩ := h.out
  rw [← h2, h1.len]
theorem SlL.at {w : World} {b o n c : Nat} {ls : List (List UInt8)} (h : SlL w (some ⟨b, o, none⟩) n c ls) (i : Nat) (hi : i < ls.length) :
    ∃ a' n' c', w.cell? ⟨b, o + i, none⟩ = some (.slice a' n' c') ∧ Sl w a' n' c' (byts ls[i]) := by
  obtain ⟨vs, h1, h2, h3⟩ := h.out
  obtain ⟨a', n', c', h4, h5⟩ := h3 i hi
  refine ⟨a', n', c', ?_, h5⟩
  rw [h1.cell i (by rw [← h1.len]; omega) _ rfl, h4]
theorem SlL.addr {w : World} {a : Option Addr} {n c : Nat} {ls : List (List UInt8)} (h : SlL w a n c ls) (hn : 0 < n) : ∃ b o, a = some ⟨b, o, none⟩ := by
  obtain ⟨vs, h1, _⟩ := h.out
  exact h1.addr hn

/-- the block that a slice lies in, as a list -/
def blk : Option Addr → List Nat
  | some p => [p.block]
  | none => []
/-- some cells stored, one behind the other -/
theorem run_stores {P : Program} {g o : Nat} {t : TypeId} : ∀ (vs : List Value) (i : Nat) {cur : List Value} {w : World}, Blk w g t cur → o + i + vs.length ≤ cur.length → (∀ v ∈ vs, v.oneCell' = true) →
    ∃ w', (storeCells ⟨g, o, none⟩ vs i).run P w = .ok () w' ∧ Blk w' g t (splice cur (o + i) vs) ∧ Fr w.heap.size [g] w w' ∧ w'.heap.size = w.heap.size ∧ w'.drawn = w.drawn
  | [], i, cur, w, hg, _, _ => ⟨w, rfl, by simpa [splice] using hg, Fr.refl _ _ _, rfl, rfl⟩
  | v :: rest, i, cur, w, hg, hl, h1 => by
    simp only [List.length_cons] at hl
    have hc := hg.cell (o + i)
    rw [List.getElem?_eq_getElem (show o + i < cur.length by omega)] at hc
    have hs : (store ((⟨g, o, none⟩ : Addr).add i) v).run P w = .ok () (w.setCell ⟨g, o + i, none⟩ v) := by
      rw [Addr.add_lit, run_store P w _ v _ (h1 v List.mem_cons_self), hc]
      simp [hg.frozen (o + i) (by omega)]
    obtain ⟨w', a, b, c, d, e⟩ := run_stores (P := P) (o := o) rest (i + 1) (hg.setCell (o + i) v) (by rw [List.length_set]; omega) (fun u hu => h1 u (List.mem_cons_of_mem _ hu))
    have hz : (w.setCell ⟨g, o + i, none⟩ v).heap.size = w.heap.size := by simp [World.setCell]
    refine ⟨w', by simp only [storeCells, Sem.run_bind, hs, Result.andThen_ok, a], ?_, ?_, by rw [d, hz], by rw [e]; rfl⟩
    · have es : splice (cur.set (o + i) v) (o + (i + 1)) rest = splice cur (o + i) (v :: rest) := by
        have hp : (cur.take (o + i)).length = o + i := by rw [List.length_take]; omega
        have hcur : cur = cur.take (o + i) ++ (cur[o + i]'(by omega)) :: cur.drop (o + i + 1) := by
          rw [← List.drop_eq_getElem_cons (by omega), List.take_append_drop]
        have hset : cur.set (o + i) v = cur.take (o + i) ++ v :: cur.drop (o + i + 1) := by
          conv => lhs; rw [hcur]
          rw [List.set_append, if_neg (by omega), hp, Nat.sub_self, List.set_cons_zero]
        rw [hset]
        simp only [splice]
        have e1 : (cur.take (o + i) ++ v :: cur.drop (o + i + 1)).take (o + (i + 1)) = cur.take (o + i) ++ [v] := by
          rw [List.take_append, hp, show o + (i + 1) - (o + i) = 1 by omega, List.take_of_length_le (by omega)]; rfl
        have e2 : (cur.take (o + i) ++ v :: cur.drop (o + i + 1)).drop (o + (i + 1) + rest.length) = cur.drop (o + i + (rest.length + 1)) := by
          rw [List.drop_append, hp, List.drop_eq_nil_of_le (by omega), List.nil_append, show o + (i + 1) + rest.length - (o + i) = rest.length + 1 by omega, List.drop_succ_cons, List.drop_drop]
          congr 1; omega
        rw [e1, e2]
        simp
      rw [← es]; exact b
    · exact Fr.call' (k := c) (h := (Fr.refl _ _ _).setCell (.inl (by simp)) _) (hS := fun x hx => .inl hx)
/-- copy into a block that is known whole, from place 'off' on; the source any slice that reads as 'ss', nil too -/
theorem run_cpy {P : Program} {w : World} (dT sT ty e : TypeId) (ht : P.underlying dT = some (.slice e)) (hsz : (P.info? e).map (·.size) = some 1) {dp sa : Option Addr} {dn dc sn sc : Nat}
    (g off k : Nat) (hk : k = Nat.min sn dn) {cur : List Value} {te : TypeId} (hg : Blk w g te cur) (hdp : 0 < k → dp = some ⟨g, off, none⟩) (hfit : off + k ≤ cur.length) {ss : List Value} (hs : Sl w sa sn sc ss) (h1 : ∀ u ∈ ss, u.oneCell' = true) :
    ∃ w', (Builtin.copy_ #[dT, sT] ty #[.slice dp dn dc, .slice sa sn sc]).run P w = .ok (goInt k) w' ∧ Blk w' g te (splice cur off (ss.take k)) ∧ Fr w.heap.size [g] w w' ∧ w'.heap.size = w.heap.size ∧ w'.drawn = w.drawn := by
  by_cases h0 : k = 0
  · have hrun := run_copy_none (P := P) w dT sT ty e dp sa dn dc sn sc ht hsz (by omega)
    refine ⟨w, by rw [hrun, h0]; rfl, ?_, Fr.refl _ _ _, rfl, rfl⟩
    rw [h0]
    simpa [splice] using hg
  · obtain rfl := hdp (by omega)
    have hmin : k ≤ sn := by rw [hk]; exact Nat.min_le_left _ _
    obtain ⟨b, o, rfl⟩ := hs.addr (by omega)
    have hl : (ss.take k).length = k := by rw [List.length_take, hs.len]; omega
    have hsrc : ∀ j v, (ss.take k)[j]? = some v → w.cell? ((⟨b, o, none⟩ : Addr).add j) = some v := by
      intro j v hv
      have hj := (List.getElem?_eq_some_iff.1 hv).1
      rw [hl] at hj
      rw [Addr.add_lit, hs.cell j (by omega) _ rfl, ← hv, List.getElem?_take, if_pos hj]
    have hld := run_loadCells_list (P := P) w ⟨b, o, none⟩ (ss.take k) hsrc
    obtain ⟨w', hst, hb', hf', hz', hd'⟩ := run_stores (P := P) (o := off) (ss.take k) 0 hg (by rw [hl]; simpa using hfit) (fun v hv => h1 v (List.mem_of_mem_take hv))
    refine ⟨w', ?_, hb', hf', hz', hd'⟩
    obtain ⟨i, hi, hsi⟩ : ∃ i, P.info? e = some i ∧ i.size = 1 := by
      cases hq : P.info? e with
      | none => rw [hq] at hsz; simp at hsz
      | some i => rw [hq] at hsz; exact ⟨i, rfl, by simpa using hsz⟩
    rw [hl] at hld
    have hk2 : Nat.min sn dn = k := hk.symm
    simp [Builtin.copy_, run_underlying ht, Builtin.lenOf, Builtin.firstCells, sizeOf, typeInfo, hi, hsi, hk2, hld, hst]

/-- 'string(b)' -/
theorem Sl.str {P : Program} {w : World} {a : Option Addr} {n c : Nat} {l : List UInt8} (h : Sl w a n c (byts l)) (src dst e : TypeId) (hs : P.underlying src = some (.slice e)) (he : P.underlying e = some (.int .u8)) (hd : P.underlying dst = some .string) :
    (convert src dst (.slice a n c)).run P w = .ok (.string ⟨l.toArray⟩) w := by
  cases a with
  | none =>
    have h1 := h.nil rfl
    have h2 := h.le
    have h3 : n = 0 := by omega
    have h4 := h.len
    rw [byts_length] at h4
    have hl : l = [] := List.eq_nil_of_length_eq_zero (by omega)
    subst hl
    rw [run_convert_bytes_nil (P := P) w src e hs he n c dst hd]
    rfl
  | some p =>
    have hlen := h.len
    rw [byts_length] at hlen
    rw [← hlen]
    refine run_convert_bytes_back w src dst e p c l hs he hd fun j hj => ?_
    have hsp := h.spot p rfl (by have := h.le; omega)
    have e1 : p.add j = ⟨p.block, p.off + j, none⟩ := by cases p; simp only at hsp; subst hsp; exact Addr.add_lit _ _ _
    rw [e1, h.cell j (by omega) p rfl]
    simp [byts, byt, hj]

/-- two lists, element by element -/
def Each {α β : Type} (R : α → β → Prop) : List α → List β → Prop
  | [], [] => True
  | a :: as, b :: bs => R a b ∧ Each R as bs
  | _, _ => False
theorem Each.len {α β : Type} {R : α → β → Prop} : ∀ {as : List α} {bs : List β}, Each R as bs → as.length = bs.length
  | [], [], _ => rfl
  | _ :: _, _ :: _, h => by simp [Each.len h.2]
theorem Each.at {α β : Type} {R : α → β → Prop} : ∀ {as : List α} {bs : List β}, Each R as bs → ∀ i (h : i < bs.length), ∃ a, as[i]? = some a ∧ R a bs[i]
  | [], [], _, i, h => by simp at h
  | a :: as, b :: bs, h, 0, _ => ⟨a, rfl, h.1⟩
  | a :: as, b :: bs, h, i + 1, hi => by
    obtain ⟨x, h1, h2⟩ := Each.at h.2 i (by simpa using hi)
    exact ⟨x, by simpa using h1, by simpa using h2⟩

/-- make([]byte, n), n a literal -/
theorem run_make_bytes {P : Program} (t e : TypeId) (ht : P.underlying t = some (.slice e)) (hi : (P.info? e).map (fun i => (i.zero, i.size, i.bytes)) = some (some (.int .u8 0), 1, 1)) (kl kc : IntKind) (n : Int) (h0 : 0 ≤ n) (hn : n ≤ 281474976710656) (w : World) :
    (Instr.makeSlice t (.int kl n) (.int kc n)).run P w = .ok (.slice (some ⟨w.heap.size, 0, none⟩) n.toNat n.toNat) (w.alloc (.cells (List.replicate n.toNat (Value.int .u8 0)).toArray e)) := by
  obtain ⟨i, hi1, hz, hs, hb⟩ := info_parts hi
  have h := run_make (P := P) w t e i (.int .u8 0) ht hi1 hz kl kc n n h0 (Int.le_refl _) (by rw [hb]; omega) (by omega)
  rw [h, hs]
  have e1 : madeCells (Value.int IntKind.u8 0).cells (n.toNat * 1) = (List.replicate n.toNat (Value.int .u8 0)).toArray := by
    rw [Nat.mul_one]
    unfold madeCells
    apply Array.ext'
    apply List.ext_getElem
    · simp
    · intro k h1 h2
      simp [Value.cells, Nat.mod_one]
  rw [e1]

theorem Ow.nil (w : World) (B : Nat) (e : TypeId) : Ow w B e none 0 0 [] := World.ownsRow_nil _ _ _ _
theorem Ow.base {w : World} {B B' : Nat} {e : TypeId} {a : Option Addr} {n c : Nat} {xs : List Value} (h : Ow w B e a n c xs) (hB : B' ≤ B) : Ow w B' e a n c xs := by
  obtain ⟨h1, h2⟩ := h
  refine ⟨h1, ?_⟩
  rcases h2 with h2 | ⟨g, cap, cur, hv, hb, r⟩
  · exact .inl h2
  · exact .inr ⟨g, cap, cur, hv, by omega, r⟩
theorem Ow.drew {w : World} {B : Nat} {e : TypeId} {a : Option Addr} {n c : Nat} {xs : List Value} (h : Ow w B e a n c xs) : Ow w.drew B e a n c xs := h
theorem Ow.alloc {w : World} {B : Nat} {e : TypeId} {a : Option Addr} {n c : Nat} {xs : List Value} (h : Ow w B e a n c xs) (o : Obj) : Ow (w.alloc o) B e a n c xs := h.ext ((Fr.refl _ _ _).alloc (Nat.le_refl _) _)
/-- an owned row that is not empty lies in a block of its own, which begins with it -/
theorem Ow.blk {w : World} {B : Nat} {e : TypeId} {a : Option Addr} {n c : Nat} {xs : List Value} (h : Ow w B e a n c xs) (hn : 0 < n) :
    ∃ g rest, a = some ⟨g, 0, none⟩ ∧ B ≤ g ∧ Blk w g e (xs ++ rest) ∧ (xs ++ rest).length = c ∧ c ≤ 9223372036854775807 := by
  rcases h.2 with ⟨_, h0⟩ | ⟨g, cap, cur, hv, hB, hg, hle, hmax, hsz, htk⟩
  · omega
  · simp only [Value.slice.injEq] at hv
    obtain ⟨rfl, -, rfl⟩ := hv
    refine ⟨g, cur.toList.drop (n * 1), rfl, hB, ?_, ?_, by unfold maxLen at hmax; exact hmax⟩
    · refine .of ?_
      rw [← htk, List.take_append_drop]
      simpa using hg
    · rw [← htk, List.take_append_drop]
      simpa using hsz

end Go.Le

/- append onto an owned row: what stood there can still be read where it stood. -/
set_option linter.unusedVariables false
set_option linter.unusedSimpArgs false
namespace Go.Le
open Go Go.RowKit

end Go.Le
