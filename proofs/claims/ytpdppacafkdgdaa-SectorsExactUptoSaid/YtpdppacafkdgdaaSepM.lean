import Derived.Test.YtpdppacafkdgdaaMemM
/- Words of our own for memory in parts: what a function owns (heaps that are apart, joined by '*'), beside what it was handed and only reads. No program in sight. -/
set_option linter.unusedVariables false
set_option linter.unusedSimpArgs false
namespace Go.Le
open Go Go.RowKit

/-- a part of the memory: blocks known whole -/
abbrev Hp := Nat → Option (TypeId × List Value)
def Hp.join (a b : Hp) : Hp := fun k => match a k with | some x => some x | none => b k
def Hp.apart (a b : Hp) : Prop := ∀ k, a k = none ∨ b k = none
theorem Hp.apart_comm {a b : Hp} (h : Hp.apart a b) : Hp.apart b a := fun k => (h k).symm
theorem Hp.join_comm {a b : Hp} (h : Hp.apart a b) : a.join b = b.join a := by
  funext k
  unfold Hp.join
  rcases h k with h | h <;> rw [h]
  · cases b k <;> rfl
  · cases a k <;> rfl
theorem Hp.join_assoc (a b c : Hp) : (a.join b).join c = a.join (b.join c) := by
  funext k
  unfold Hp.join
  cases a k <;> rfl
theorem Hp.join_none {a b : Hp} {k : Nat} : a.join b k = none ↔ a k = none ∧ b k = none := by
  unfold Hp.join
  cases a k <;> simp

/-- what is said of a part of the memory -/
def HP := Hp → Prop
def HP.sep (A B : HP) : HP := fun h => ∃ a b, Hp.apart a b ∧ h = a.join b ∧ A a ∧ B b
instance : Mul HP := ⟨HP.sep⟩
def emp : HP := fun h => h = fun _ => none
instance : One HP := ⟨emp⟩
/-- block g, known whole -/
def pts (g : Nat) (e : TypeId) (cs : List Value) : HP := fun h => h = fun k => if k = g then some (e, cs) else none
def ex {α : Type} (A : α → HP) : HP := fun h => ∃ x, A x h
def pur (p : Prop) : HP := fun h => p ∧ h = fun _ => none

theorem sep_comm (A B : HP) : A * B = B * A := by
  have key : ∀ (A B : HP) h, (A * B) h → (B * A) h := fun A B h ⟨a, b, h1, h2, h3, h4⟩ => ⟨b, a, Hp.apart_comm h1, by rw [h2, Hp.join_comm h1], h4, h3⟩
  funext h
  exact propext ⟨key A B h, key B A h⟩
theorem sep_assoc (A B C : HP) : A * B * C = A * (B * C) := by
  funext h
  refine propext ⟨?_, ?_⟩
  · rintro ⟨ab, c, h1, rfl, ⟨a, b, h2, rfl, h3, h4⟩, h5⟩
    have h6 : Hp.apart a c := fun k => (h1 k).imp (fun h => (Hp.join_none.1 h).1) id
    have h7 : Hp.apart b c := fun k => (h1 k).imp (fun h => (Hp.join_none.1 h).2) id
    exact ⟨a, b.join c, fun k => (h2 k).elim .inl fun h => (h6 k).elim .inl fun h' => .inr (Hp.join_none.2 ⟨h, h'⟩), Hp.join_assoc a b c, h3, b, c, h7, rfl, h4, h5⟩
  · rintro ⟨a, bc, h1, rfl, h3, b, c, h2, rfl, h4, h5⟩
    have h6 : Hp.apart a b := fun k => (h1 k).imp id (fun h => (Hp.join_none.1 h).1)
    have h7 : Hp.apart a c := fun k => (h1 k).imp id (fun h => (Hp.join_none.1 h).2)
    exact ⟨a.join b, c, fun k => (h2 k).elim (fun h => (h7 k).elim (fun h' => .inl (Hp.join_none.2 ⟨h', h⟩)) .inr) .inr, (Hp.join_assoc a b c).symm, ⟨a, b, h6, rfl, h3, h4⟩, h5⟩
instance : Std.Associative (α := HP) (· * ·) := ⟨sep_assoc⟩
instance : Std.Commutative (α := HP) (· * ·) := ⟨sep_comm⟩
theorem emp_sep (A : HP) : emp * A = A := by
  funext h
  refine propext ⟨?_, fun h1 => ⟨fun _ => none, h, fun _ => .inl rfl, rfl, rfl, h1⟩⟩
  rintro ⟨a, b, h1, rfl, rfl, h4⟩
  exact h4
theorem sep_emp (A : HP) : A * emp = A := by rw [sep_comm, emp_sep]
theorem sep_left_comm (A B C : HP) : A * (B * C) = B * (A * C) := by rw [← sep_assoc, sep_comm A B, sep_assoc]
theorem ex_sep {α : Type} (A : α → HP) (B : HP) : ex A * B = ex fun x => A x * B := by
  funext h
  refine propext ⟨?_, ?_⟩
  · rintro ⟨a, b, h1, h2, ⟨x, h3⟩, h4⟩
    exact ⟨x, a, b, h1, h2, h3, h4⟩
  · rintro ⟨x, a, b, h1, h2, h3, h4⟩
    exact ⟨a, b, h1, h2, ⟨x, h3⟩, h4⟩

/-- the world w, which began as wb: what was there is as it was; of what is new, A holds of a part -/
def Mem (wb w : World) (A : HP) : Prop := Fr wb.heap.size [] wb w ∧ ∃ h, A h ∧ ∀ k e cs, h k = some (e, cs) → wb.heap.size ≤ k ∧ Blk w k e cs

section
variable {wb w w' : World} {A B C R : HP} {g : Nat} {e : TypeId} {cs : List Value}

theorem Mem.base (h : Mem wb w A) : Fr wb.heap.size [] wb w := h.1
theorem Mem.eq (h : Mem wb w A) (he : A = B) : Mem wb w B := he ▸ h
theorem Mem.left (h : Mem wb w (A * B)) : Mem wb w A := by
  obtain ⟨hb, h, ⟨a, b, h1, rfl, h3, h4⟩, hk⟩ := h
  exact ⟨hb, a, h3, fun k e cs he => hk k e cs (by unfold Hp.join; rw [he])⟩
theorem Mem.right (h : Mem wb w (A * B)) : Mem wb w B := by rw [sep_comm] at h; exact h.left
theorem Mem.ex {α : Type} {A : α → HP} : Mem wb w (ex A) ↔ ∃ x, Mem wb w (A x) :=
  ⟨fun ⟨hb, h, ⟨x, hx⟩, hk⟩ => ⟨x, hb, h, hx, hk⟩, fun ⟨x, hb, h, hx, hk⟩ => ⟨hb, h, ⟨x, hx⟩, hk⟩⟩
theorem Mem.exl {α : Type} {A : α → HP} : Mem wb w (Le.ex A * B) ↔ ∃ x, Mem wb w (A x * B) := by rw [ex_sep, Mem.ex]
theorem Mem.pur {p : Prop} : Mem wb w (pur p * A) ↔ p ∧ Mem wb w A := by
  constructor
  · rintro ⟨hb, h, ⟨a, b, h1, rfl, ⟨h3, rfl⟩, h4⟩, hk⟩
    exact ⟨h3, hb, b, h4, hk⟩
  · rintro ⟨hp, hb, h, hA, hk⟩
    exact ⟨hb, h, ⟨fun _ => none, h, fun _ => .inl rfl, rfl, ⟨hp, rfl⟩, hA⟩, hk⟩
theorem Mem.blk (h : Mem wb w (pts g e cs * R)) : Blk w g e cs ∧ wb.heap.size ≤ g := by
  obtain ⟨hb, h, ⟨a, b, h1, rfl, h3, h4⟩, hk⟩ := h
  have := hk g e cs (by subst h3; simp [Hp.join])
  exact ⟨this.2, this.1⟩
theorem Mem.drew (h : Mem wb w A) : Mem wb w.drew A := ⟨h.1.drew, h.2⟩
theorem Mem.drewN (h : Mem wb w A) (n : Nat) : Mem wb (w.drewN n) A := ⟨h.1.drewN n, h.2⟩
/-- nothing old has turned -/
theorem Mem.fr (h : Mem wb w A) (hf : Fr w.heap.size [] w w') : Mem wb w' A := by
  obtain ⟨hb, h, hA, hk⟩ := h
  exact ⟨hb.call (k := hf) (hB := hb.size) (hS := by simp), h, hA, fun k e cs he => ⟨(hk k e cs he).1, (hk k e cs he).2.ext hf⟩⟩
/-- one block has turned -/
theorem Mem.fr1 {cs' : List Value} (h : Mem wb w (pts g e cs * R)) (hf : Fr w.heap.size [g] w w') (hg : Blk w' g e cs') : Mem wb w' (pts g e cs' * R) := by
  have hlt := h.blk
  obtain ⟨hb, h, ⟨a, b, h1, rfl, rfl, h4⟩, hk⟩ := h
  refine ⟨hb.call (k := hf) (hB := hb.size) (hS := by simp; exact hlt.2), _, ⟨_, b, fun k => ?_, rfl, rfl, h4⟩, fun k e1 c1 he => ?_⟩
  · have := h1 k
    by_cases hkg : k = g
    · right; simpa [hkg] using this
    · left; simp [hkg]
  · by_cases hkg : k = g
    · subst hkg
      simp [Hp.join] at he
      obtain ⟨rfl, rfl⟩ := he
      exact ⟨hlt.2, hg⟩
    · have he' := hk k e1 c1 (by simpa [Hp.join, hkg] using he)
      exact ⟨he'.1, he'.2.fr hf he'.2.lt (by simpa using hkg)⟩
/-- a new block -/
theorem Mem.new (h : Mem wb w A) (hf : Fr w.heap.size [] w w') (hg : w.heap.size ≤ g) (hb : Blk w' g e cs) : Mem wb w' (pts g e cs * A) := by
  have h0 := h
  obtain ⟨hba, h, hA, hk⟩ := h
  have hs := hba.size
  refine ⟨(h0.fr hf).1, _, ⟨_, h, fun k => ?_, rfl, rfl, hA⟩, fun k e1 c1 he => ?_⟩
  · by_cases hkg : k = g
    · right
      cases hx : h k with
      | none => rfl
      | some x =>
        have := (hk k x.1 x.2 hx).2.lt
        omega
    · left; simp [hkg]
  · by_cases hkg : k = g
    · subst hkg
      simp [Hp.join] at he
      obtain ⟨rfl, rfl⟩ := he
      exact ⟨by omega, hb⟩
    · have he' := hk k e1 c1 (by simpa [Hp.join, hkg] using he)
      exact ⟨he'.1, he'.2.ext hf⟩
theorem Mem.alloc (h : Mem wb w A) (cs : List Value) (e : TypeId) : Mem wb (w.alloc (.cells cs.toArray e)) (pts w.heap.size e cs * A) :=
  h.new ((Fr.refl _ _ _).alloc (Nat.le_refl _) _) (Nat.le_refl _) (Blk.new w cs e)
theorem Mem.alloc' (h : Mem wb w A) (o : Obj) : Mem wb (w.alloc o) A := h.fr ((Fr.refl _ _ _).alloc (Nat.le_refl _) _)
theorem Mem.setCell (h : Mem wb w (pts g e cs * R)) (i : Nat) (v : Value) : Mem wb (w.setCell ⟨g, i, none⟩ v) (pts g e (cs.set i v) * R) :=
  h.fr1 ((Fr.refl _ _ _).setCell (.inl (by simp)) _) (h.blk.1.setCell i v)
theorem Mem.cell (h : Mem wb w (pts g e cs * R)) (i : Nat) : w.cell? ⟨g, i, none⟩ = cs[i]? := h.blk.1.cell i
theorem Mem.frozen (h : Mem wb w (pts g e cs * R)) (i : Nat) (hi : i < cs.length := by first | assumption | exact Nat.le_of_ble_eq_true rfl | (simp; done) | (simp; omega)) : w.frozen? ⟨g, i, none⟩ = false := h.blk.1.frozen i hi
theorem Mem.start (w : World) : Mem w w emp := ⟨Fr.refl _ _ _, _, rfl, fun k e cs h => by cases h⟩
theorem Mem.src {a : Option Addr} {n c : Nat} {xs : List Value} (h : Mem wb w A) (hs : Sl wb a n c xs) : Sl w a n c xs := hs.ext h.1

/-- AN OWNED ROW: nil, or a block of its own, begun with xs (n elements of s cells each, room for c) -/
def row (e : TypeId) (s : Nat) (a : Option Addr) (n c : Nat) (xs : List Value) : HP := fun h => xs.length = n * s ∧ n ≤ c ∧ c ≤ 9223372036854775807 ∧
  ((a = none ∧ c = 0 ∧ h = fun _ => none) ∨ ∃ g rest, a = some ⟨g, 0, none⟩ ∧ c * s ≤ xs.length + rest.length ∧ pts g e (xs ++ rest) h)
theorem row_nil (e : TypeId) (s : Nat) : row e s none 0 0 [] = emp := by
  funext h
  refine propext ⟨?_, fun h => ⟨by simp, Nat.le_refl _, by omega, .inl ⟨rfl, rfl, h⟩⟩⟩
  rintro ⟨_, _, _, ⟨_, _, h⟩ | ⟨g, rest, h, _⟩⟩
  · exact h
  · cases h
theorem Mem.row_some {b : Nat} {o : Nat} {sp : Option Nat} {s n c : Nat} {xs : List Value} : Mem wb w (row e s (some ⟨b, o, sp⟩) n c xs * R) ↔
    ∃ rest, o = 0 ∧ sp = none ∧ xs.length = n * s ∧ n ≤ c ∧ c ≤ 9223372036854775807 ∧ c * s ≤ xs.length + rest.length ∧ Mem wb w (pts b e (xs ++ rest) * R) := by
  constructor
  · rintro ⟨hb, h, ⟨a, b', h1, rfl, ⟨l1, l2, l3, ⟨h3, _⟩ | ⟨g, rest, h3, h5, h6⟩⟩, h4⟩, hk⟩
    · cases h3
    · cases h3
      exact ⟨rest, rfl, rfl, l1, l2, l3, h5, hb, _, ⟨a, b', h1, rfl, h6, h4⟩, hk⟩
  · rintro ⟨rest, rfl, rfl, l1, l2, l3, h5, hb, _, ⟨a, b', h1, rfl, h6, h4⟩, hk⟩
    exact ⟨hb, _, ⟨a, b', h1, rfl, ⟨l1, l2, l3, .inr ⟨b, rest, rfl, h5, h6⟩⟩, h4⟩, hk⟩
theorem Mem.row_none {s n c : Nat} {xs : List Value} : Mem wb w (row e s none n c xs * R) ↔ n = 0 ∧ c = 0 ∧ xs = [] ∧ Mem wb w R := by
  constructor
  · rintro ⟨hb, h, ⟨a, b', h1, rfl, ⟨l1, l2, l3, ⟨_, h3, h5⟩ | ⟨g, rest, h3, h5, h6⟩⟩, h4⟩, hk⟩
    · subst h5
      subst h3
      obtain rfl : n = 0 := by omega
      exact ⟨rfl, rfl, List.eq_nil_of_length_eq_zero (by simpa using l1), hb, b', h4, hk⟩
    · cases h3
  · rintro ⟨rfl, rfl, rfl, h⟩
    rw [row_nil, emp_sep]; exact h
theorem Mem.row_len {a : Option Addr} {s n c : Nat} {xs : List Value} (h : Mem wb w (row e s a n c xs * R)) : xs.length = n * s ∧ n ≤ c ∧ c ≤ 9223372036854775807 := by
  obtain ⟨hb, h, ⟨a, b', h1, rfl, ⟨l1, l2, l3, _⟩, h4⟩, hk⟩ := h
  exact ⟨l1, l2, l3⟩
/-- where it lies -/
theorem Mem.row_at {a : Option Addr} {s n c : Nat} {xs : List Value} (h : Mem wb w (row e s a n c xs * R)) (hn : 0 < n) : ∃ g rest, a = some ⟨g, 0, none⟩ ∧ xs.length = n * s ∧ n ≤ c ∧ c ≤ 9223372036854775807 ∧ c * s ≤ xs.length + rest.length ∧ Mem wb w (pts g e (xs ++ rest) * R) := by
  cases a with
  | none => have := (Mem.row_none.1 h).1; omega
  | some p =>
    obtain ⟨b, o, sp⟩ := p
    obtain ⟨rest, rfl, rfl, h2⟩ := Mem.row_some.1 h
    exact ⟨b, rest, rfl, h2⟩
theorem Mem.row_cell {a : Option Addr} {s n c : Nat} {xs : List Value} (h : Mem wb w (row e s a n c xs * R)) (p : Addr) (hp : a = some p) (j : Nat) (v : Value) (hv : xs[j]? = some v) : w.cell? (p.add j) = some v ∧ p.spot = none ∧ p.off = 0 := by
  subst hp
  obtain ⟨b, o, sp⟩ := p
  obtain ⟨rest, rfl, rfl, _, _, _, _, hm⟩ := Mem.row_some.1 h
  rw [Addr.add_lit, hm.cell, Nat.zero_add]
  have hj := (List.getElem?_eq_some_iff.1 hv).1
  exact ⟨by rw [List.getElem?_append_left hj]; exact hv, rfl, rfl⟩
theorem Mem.row_sl {a : Option Addr} {n c : Nat} {xs : List Value} (h : Mem wb w (row e 1 a n c xs * R)) : Sl w a n c xs := by
  cases a with
  | none =>
    obtain ⟨rfl, rfl, rfl, _⟩ := Mem.row_none.1 h
    exact Sl.nil' w
  | some p =>
    obtain ⟨b, o, sp⟩ := p
    obtain ⟨rest, rfl, rfl, h1, h2, h3, h4, hm⟩ := Mem.row_some.1 h
    refine ⟨by simpa using h1, h2, h3, (fun h => by cases h), (fun p hp _ => by cases hp; rfl), fun i hi p hp => ?_⟩
    cases hp
    rw [hm.cell, Nat.zero_add, List.getElem?_append_left (by omega)]
theorem Mem.of_row {a : Option Addr} {s n c : Nat} {xs : List Value} {g : Nat} (ha : a = some ⟨g, 0, none⟩) {rest : List Value} (h1 : xs.length = n * s) (h2 : n ≤ c) (h3 : c ≤ 9223372036854775807) (h4 : c * s ≤ xs.length + rest.length) (h : Mem wb w (pts g e (xs ++ rest) * R)) : Mem wb w (row e s a n c xs * R) := by
  subst ha
  exact Mem.row_some.2 ⟨rest, rfl, rfl, h1, h2, h3, h4, h⟩
/-- a row behind an append, and the row as it stood (it can be read there still) -/
def duo (e : TypeId) (s : Nat) (a : Option Addr) (n c : Nat) (xs : List Value) (a' : Option Addr) (n' c' : Nat) (ys : List Value) : HP :=
  fun h => (a' = a ∧ row e s a' n' c' ys h) ∨ (row e s a' n' c' ys * row e s a n c xs) h
theorem Mem.duo_row {a a' : Option Addr} {s n c n' c' : Nat} {xs ys : List Value} (h : Mem wb w (duo e s a n c xs a' n' c' ys * R)) : Mem wb w (row e s a' n' c' ys * R) := by
  obtain ⟨hb, h, ⟨a1, b, h1, rfl, ⟨-, h3⟩ | h3, h4⟩, hk⟩ := h
  · exact ⟨hb, _, ⟨a1, b, h1, rfl, h3, h4⟩, hk⟩
  · have : Mem wb w (row e s a' n' c' ys * row e s a n c xs * R) := ⟨hb, _, ⟨a1, b, h1, rfl, h3, h4⟩, hk⟩
    rw [sep_assoc, sep_left_comm] at this
    exact this.right
theorem Mem.duo_in {a a' : Option Addr} {s n c n' c' : Nat} {xs ys : List Value} (ha : a' = a) (h : Mem wb w (row e s a' n' c' ys * R)) : Mem wb w (duo e s a n c xs a' n' c' ys * R) := by
  obtain ⟨hb, h, ⟨a1, b, h1, rfl, h3, h4⟩, hk⟩ := h
  exact ⟨hb, _, ⟨a1, b, h1, rfl, .inl ⟨ha, h3⟩, h4⟩, hk⟩
theorem Mem.duo_out {a a' : Option Addr} {s n c n' c' : Nat} {xs ys : List Value} (h : Mem wb w (row e s a' n' c' ys * (row e s a n c xs * R))) : Mem wb w (duo e s a n c xs a' n' c' ys * R) := by
  rw [← sep_assoc] at h
  obtain ⟨hb, h, ⟨a1, b, h1, rfl, h3, h4⟩, hk⟩ := h
  exact ⟨hb, _, ⟨a1, b, h1, rfl, .inr h3, h4⟩, hk⟩
/-- append onto an owned row: elements of s cells each -/
theorem Mem.append {P : Program} {a sa : Option Addr} {s n c m sc bytes : Nat} {xs news : List Value} (h : Mem wb w (row e s a n c xs * R)) (t ty : TypeId) {i : TypeInfo} {z : Value} (ht : P.underlying t = some (.slice e)) (hi : P.info? e = some i) (hz : i.zero = some z)
    (hsize : i.size = s) (hby : i.bytes = bytes) (hzs : z.cells.size = s) (hs0 : 0 < s) (hn : news.length = m * s) (hs : ∀ p, sa = some p → ∀ j u, news[j]? = some u → w.cell? (p.add j) = some u) (hnil : sa = none → m = 0 ∧ sc = 0) (h1 : ∀ u ∈ news, u.oneCell' = true)
    (h63 : n + m ≤ 9223372036854775807) (hbytes : (n + m) * bytes ≤ 140737488355328) :
    ∃ a' c' w', (Builtin.append_ #[t, t] ty #[.slice a n c, .slice sa m sc]).run P w = .ok (.slice a' (n + m) c') w' ∧ Mem wb w' (duo e s a n c xs a' (n + m) c' (xs ++ news) * R) ∧ (a' = none ↔ a = none ∧ m = 0) ∧ (c < n + m → ∀ q, a = some q → a' ≠ a) := by
  subst hsize
  subst hby
  have hsmall : n + m ≤ 9223372036854775807 := h63
  have hrl := h.row_len
  have hlen : (xs ++ news).length = (n + m) * i.size := by rw [List.length_append, hrl.1, hn, Nat.add_mul]
  -- what the growing arm leaves, whatever was there before
  have grown : ∀ (old : Nat), old < n + m → Mem wb (w.drew.alloc (.cells (xs.toArray ++ news.toArray ++ Builtin.zeroCells z.cells (grownCap w (n + m) old e - (n + m))) e))
      (row e i.size (some ⟨w.heap.size, 0, none⟩) (n + m) (grownCap w (n + m) old e) (xs ++ news) * (row e i.size a n c xs * R)) := by
    intro old ho
    have hge := grownCap_ge w (n + m) old e
    have hcm : grownCap w (n + m) old e ≤ maxLen := grownCap_le_maxLen w (n + m) old e h63
    have hA := h.drew.alloc (xs ++ news ++ (Builtin.zeroCells z.cells (grownCap w (n + m) old e - (n + m))).toList) e
    refine Mem.row_some.2 ⟨(Builtin.zeroCells z.cells (grownCap w (n + m) old e - (n + m))).toList, rfl, rfl, hlen, hge, hcm, ?_, ?_⟩
    · have := size_zeroCells z.cells (grownCap w (n + m) old e - (n + m))
      rw [hlen, Array.length_toList, this, hzs, ← Nat.add_mul]
      exact Nat.mul_le_mul_right _ (by omega)
    · have e1 : (xs ++ news ++ (Builtin.zeroCells z.cells (grownCap w (n + m) old e - (n + m))).toList).toArray = xs.toArray ++ news.toArray ++ Builtin.zeroCells z.cells (grownCap w (n + m) old e - (n + m)) := by
        apply Array.ext'; simp
      rw [e1] at hA
      exact hA
  cases sa with
  | none =>
    obtain ⟨rfl, rfl⟩ := hnil rfl
    have hn' : news = [] := List.eq_nil_of_length_eq_zero (by simpa using hn)
    subst hn'
    refine ⟨a, c, w, ?_, Mem.duo_in rfl (by simpa using h), by simp, fun hlt => by omega⟩
    cases a with
    | none =>
      obtain ⟨rfl, rfl, rfl, _⟩ := Mem.row_none.1 h
      simp [Builtin.append_, run_underlying ht, sizeOf, typeInfo, hi, Builtin.lenOf, Builtin.firstCells]
    | some q => simp [Builtin.append_, run_underlying ht, sizeOf, typeInfo, hi, Builtin.lenOf, Builtin.firstCells, hrl.2.1, storeCells]
  | some p =>
    cases a with
    | none =>
      obtain ⟨rfl, rfl, rfl, hR⟩ := Mem.row_none.1 h
      by_cases hm : m = 0
      · subst hm
        have hn' : news = [] := List.eq_nil_of_length_eq_zero (by simpa using hn)
        subst hn'
        refine ⟨none, 0, w, ?_, Mem.duo_in rfl (by simpa using h), by simp, fun _ q hq => by cases hq⟩
        simp [Builtin.append_, run_underlying ht, sizeOf, typeInfo, hi, Builtin.lenOf, Builtin.firstCells, loadCells, loadCellsFrom]
      · have hr := run_append_nil (P := P) w t ty e i z ht hi hz p m sc news hn (hs p rfl) (by omega) (by omega) (by have hb := hbytes; simp only [Nat.zero_add] at hb; omega)
        have hgr := grown 0 (by omega)
        simp only [Nat.zero_add, List.nil_append, Array.empty_append] at hgr ⊢
        exact ⟨_, _, _, hr, Mem.duo_out hgr, by simp [hm], fun _ q hq => by cases hq⟩
    | some q =>
      obtain ⟨g, o, sp⟩ := q
      obtain ⟨rest, rfl, rfl, h1', h2', h3', h4', hm⟩ := Mem.row_some.1 h
      by_cases hroom : n + m ≤ c
      · have hfit : n * i.size + news.length ≤ (xs ++ rest).toArray.size := by
          rw [hn, ← Nat.add_mul]
          simp only [List.size_toArray, List.length_append]
          exact Nat.le_trans (Nat.mul_le_mul_right _ hroom) h4'
        have hfit2 : n * i.size + news.length ≤ (xs ++ rest).length := by simpa using hfit
        have hfc := run_firstCells_some (P := P) w i.size m p m sc news hn (hs p rfl)
        obtain ⟨w', hst, hb', hf', -, -⟩ := run_stores (P := P) (o := n * i.size) news 0 hm.blk.1 (by simpa using hfit2) h1
        have hr : (Builtin.append_ #[t, t] ty #[.slice (some ⟨g, 0, none⟩) n c, .slice (some p) m sc]).run P w = .ok (.slice (some ⟨g, 0, none⟩) (n + m) c) w' := by
          simp [Builtin.append_, run_underlying ht, sizeOf, typeInfo, hi, Builtin.lenOf, hroom, hfc, Addr.add_lit, hst]
        refine ⟨_, _, _, hr, Mem.duo_in rfl (Mem.row_some.2 ⟨rest.drop news.length, rfl, rfl, hlen, hroom, h3', ?_, ?_⟩), by simp, fun hlt => by omega⟩
        · simp only [List.length_append, List.length_drop, List.size_toArray] at hfit ⊢
          omega
        · refine hm.fr1 hf' ?_
          have e : splice (xs ++ rest) (n * i.size + 0) news = xs ++ news ++ rest.drop news.length := by
            simp only [splice, Nat.add_zero]
            rw [← h1', List.take_left, ← List.drop_drop, List.drop_left]
            simp
          rw [← e]; exact hb'
      · have holds : ∀ j u, xs[j]? = some u → w.cell? ((⟨g, 0, none⟩ : Addr).add j) = some u := fun j u hu => (h.row_cell _ rfl j u hu).1
        have hr := run_append_grow (P := P) w t ty e i z ht hi hz ⟨g, 0, none⟩ n c xs hrl.1 holds p m sc news hn (hs p rfl) (by omega) (by omega) (growslice_fits (by omega) hbytes)
        refine ⟨_, _, _, hr, Mem.duo_out (grown c (by omega)), by simp, fun _ q hq he => ?_⟩
        have := hm.blk.1.lt
        cases hq
        simp at he
        try omega

/-- many parts -/
def all : List HP → HP
  | [] => emp
  | A :: r => A * all r
theorem all_append : ∀ (l r : List HP), all (l ++ r) = all l * all r
  | [], r => by rw [List.nil_append, all, emp_sep]
  | A :: l, r => by rw [List.cons_append, all, all, all_append l r, sep_assoc]
theorem all_snoc (l : List HP) (A : HP) : all (l ++ [A]) = A * all l := by rw [all_append, all, all, sep_emp, sep_comm]
theorem all_take (l : List HP) (i : Nat) (hi : i < l.length) : all l = l[i] * (all (l.take i) * all (l.drop (i + 1))) := by
  conv => lhs; rw [← List.take_append_drop i l, all_append, List.drop_eq_getElem_cons hi, all]
  rw [sep_left_comm]
end
end Go.Le

/- Operations on memory in parts: append, copy, at a plain step and in a region that draws its order. No program in sight. -/
set_option linter.unusedVariables false
set_option linter.unusedSimpArgs false
namespace Go.Le
open Go Go.RowKit
section
variable {wb w : World} {A R : HP} {e : TypeId}

theorem wpList_append {P : Program} {ops : Array Oper} {rest : List Oper} {o : Oper} {ac : Act} {Q : Exit → Act → World → Prop} (hgd : o.guard = none) (so xo : Operand) (t : TypeId)
    (ho : o.op = .call { callee := .builtin .append, args := #[so, xo], argTypes := #[t, t] }) {i : TypeInfo} {z : Value} {bytes s : Nat} (ht : P.underlying t = some (.slice e)) (hi : P.info? e = some i) (hz : i.zero = some z)
    (hsize : i.size = s) (hby : i.bytes = bytes) (hzs : z.cells.size = s) (hs0 : 0 < s) {a sa : Option Addr} {n c m sc : Nat} {xs news : List Value} (hds : ac.eval so = .slice a n c) (hsx : ac.eval xo = .slice sa m sc)
    (h : Mem wb w A) (hA : A = row e s a n c xs * R) (hn : news.length = m * s) (hs : ∀ p, sa = some p → ∀ j u, news[j]? = some u → w.cell? (p.add j) = some u) (hnil : sa = none → m = 0 ∧ sc = 0) (h1 : ∀ u ∈ news, u.oneCell' = true)
    (h63 : n + m ≤ 9223372036854775807) (hbytes : (n + m) * bytes ≤ 140737488355328)
    (hk : ∀ a' c' w', Mem wb w' (duo e s a n c xs a' (n + m) c' (xs ++ news) * R) → (a' = none ↔ a = none ∧ m = 0) → (c < n + m → ∀ q, a = some q → a' ≠ a) →
      wpList P ops Q rest (ac.put o.dst (.slice a' (n + m) c')) w') : wpList P ops Q (o :: rest) ac w := by
  subst hA
  refine wpList_plain hgd fun K hK => ?_
  obtain ⟨a', c', w', hr, h2, h3, h4⟩ := h.append (P := P) t o.type ht hi hz hsize hby hzs hs0 hn hs hnil h1 h63 hbytes
  unfold Oper.wp
  simp [execOp, ho, resolve, invoke, builtin, hds, hsx, hr, Result.andThen]
  exact hK _ _ (hk a' c' w' h2 h3 h4)

/-- what is appended: one element, just built -/
theorem news_built {w : World} {news : List Value} {e : TypeId} {g : Nat} (hg : Blk w g e news) : ∀ p : Addr, some (⟨g, 0, none⟩ : Addr) = some p → ∀ j u, news[j]? = some u → w.cell? (p.add j) = some u := by
  intro p hp j u hu
  cases hp
  rw [Addr.add_lit, hg.cell, Nat.zero_add, hu]
theorem news_sl {w : World} {a : Option Addr} {n c : Nat} {news : List Value} (h : Sl w a n c news) : ∀ p, a = some p → ∀ j u, news[j]? = some u → w.cell? (p.add j) = some u := by
  intro p hp j u hu
  subst hp
  have hj : j < n := by rw [← h.len]; exact (List.getElem?_eq_some_iff.1 hu).1
  have hsp := h.spot p rfl (by have := h.le; omega)
  have e1 : p.add j = ⟨p.block, p.off + j, none⟩ := by cases p; simp only at hsp; subst hsp; exact Addr.add_lit _ _ _
  rw [e1, h.cell j hj p rfl, hu]
theorem news_nil {w : World} {a : Option Addr} {n c : Nat} {news : List Value} (h : Sl w a n c news) : a = none → n = 0 ∧ c = 0 := by
  intro ha
  have h1 := h.nil ha
  have h2 := h.le
  omega

/-- copy into a row that is owned, or a cut of it -/
theorem Mem.copy {P : Program} (dT sT ty : TypeId) (ht : P.underlying dT = some (.slice e)) (hsz : (P.info? e).map (·.size) = some 1) {g : Nat} {te : TypeId} {cur ss : List Value} (h : Mem wb w (pts g te cur * R)) {dp sa : Option Addr} {dn dc sn sc : Nat}
    (off k : Nat) (hk : k = Nat.min sn dn) (hdp : 0 < k → dp = some ⟨g, off, none⟩) (hfit : off + k ≤ cur.length) (hs : Sl w sa sn sc ss) (h1 : ∀ u ∈ ss, u.oneCell' = true) :
    ∃ w', (Builtin.copy_ #[dT, sT] ty #[.slice dp dn dc, .slice sa sn sc]).run P w = .ok (goInt k) w' ∧ Mem wb w' (pts g te (splice cur off (ss.take k)) * R) := by
  obtain ⟨w', hr, hb, hf, _⟩ := run_cpy (P := P) (w := w) dT sT ty e ht hsz g off k hk h.blk.1 hdp hfit hs h1
  exact ⟨w', hr, h.fr1 hf hb⟩

theorem wpList_copy {P : Program} {ops : Array Oper} {rest : List Oper} {o : Oper} {ac : Act} {Q : Exit → Act → World → Prop} (hgd : o.guard = none) (d s : Operand) (dT sT : TypeId)
    (ho : o.op = .call { callee := .builtin .copy, args := #[d, s], argTypes := #[dT, sT] }) (ht : P.underlying dT = some (.slice e)) (hsz : (P.info? e).map (·.size) = some 1) {dp sa : Option Addr} {dn dc sn sc : Nat}
    (hd : ac.eval d = .slice dp dn dc) (hss : ac.eval s = .slice sa sn sc) {g : Nat} {te : TypeId} {cur ss : List Value} (h : Mem wb w A) (hA : A = pts g te cur * R)
    (off k : Nat) (hk : k = Nat.min sn dn) (hdp : 0 < k → dp = some ⟨g, off, none⟩) (hfit : off + k ≤ cur.length) (hs : Sl w sa sn sc ss) (h1 : ∀ u ∈ ss, u.oneCell' = true)
    (hk' : ∀ w', Mem wb w' (pts g te (splice cur off (ss.take k)) * R) → wpList P ops Q rest (ac.put o.dst (goInt k)) w') : wpList P ops Q (o :: rest) ac w := by
  subst hA
  refine wpList_plain hgd fun K hK => ?_
  obtain ⟨w', hr, h2⟩ := h.copy (P := P) dT sT o.type ht hsz off k hk hdp hfit hs h1
  unfold Oper.wp
  simp only [execOp, ho, resolve, invoke, builtin, hd, hss, Sem.run_bind, Sem.run_pure, Result.andThen_ok, List.map_toArray, List.map_cons, List.map_nil]
  rw [hr]
  exact hK _ _ (hk' w' h2)

theorem step_copy {P : Program} {ops : Array Oper} {o : Oper} {ac : Act} {K : Act → World → Prop} {Q : Exit → Act → World → Prop} {E : Prop} (hgd : o.guard = none) (d s : Operand) (dT sT : TypeId)
    (ho : o.op = .call { callee := .builtin .copy, args := #[d, s], argTypes := #[dT, sT] }) (ht : P.underlying dT = some (.slice e)) (hsz : (P.info? e).map (·.size) = some 1) {dp sa : Option Addr} {dn dc sn sc : Nat}
    (hd : ac.eval d = .slice dp dn dc) (hss : ac.eval s = .slice sa sn sc) {g : Nat} {te : TypeId} {cur ss : List Value} (h : Mem wb w A) (hA : A = pts g te cur * R)
    (off k : Nat) (hk : k = Nat.min sn dn) (hdp : 0 < k → dp = some ⟨g, off, none⟩) (hfit : off + k ≤ cur.length) (hs : Sl w sa sn sc ss) (h1 : ∀ u ∈ ss, u.oneCell' = true)
    (hk' : ∀ w', Mem wb w' (pts g te (splice cur off (ss.take k)) * R) → K (ac.put o.dst (goInt k)) w') :
    if Region.wanted o (yielded ops ac.tmps) = true then Oper.wp P o ac w K Q else E := by
  subst hA
  have hw : Region.wanted o (yielded ops ac.tmps) = true := by simp [Region.wanted, hgd]
  rw [if_pos hw]
  obtain ⟨w', hr, h2⟩ := h.copy (P := P) dT sT o.type ht hsz off k hk hdp hfit hs h1
  unfold Oper.wp
  simp only [execOp, ho, resolve, invoke, builtin, hd, hss, Sem.run_bind, Sem.run_pure, Result.andThen_ok, List.map_toArray, List.map_cons, List.map_nil]
  rw [hr]
  exact hk' w' h2
end

theorem Sl.take {w : World} {a : Option Addr} {n c : Nat} {xs : List Value} (h : Sl w a n c xs) (m : Nat) (hm : m ≤ n) : Sl w a m c (xs.take m) :=
  ⟨by rw [List.length_take, h.len]; omega, by have := h.le; omega, h.cap, h.nil, h.spot, fun i hi p hp => by
    rw [h.cell i (by omega) p hp, List.getElem?_take, if_pos hi]⟩
theorem Sl.drew {w : World} {a : Option Addr} {n c : Nat} {xs : List Value} (h : Sl w a n c xs) : Sl w.drew a n c xs := ⟨h.len, h.le, h.cap, h.nil, h.spot, h.cell⟩
theorem Sl.drewN {w : World} {a : Option Addr} {n c : Nat} {xs : List Value} (h : Sl w a n c xs) (k : Nat) : Sl (w.drewN k) a n c xs := ⟨h.len, h.le, h.cap, h.nil, h.spot, h.cell⟩
theorem byts_take (l : List UInt8) (n : Nat) : (byts l).take n = byts (l.take n) := by simp [byts]
theorem byts_drop (l : List UInt8) (n : Nat) : (byts l).drop n = byts (l.drop n) := by simp [byts]
theorem byts_splice (l r : List UInt8) (o : Nat) : splice (byts l) o (byts r) = byts (splice l o r) := by simp [splice, byts]
/-- one part to the front -/
theorem Mem.p1 {wb w : World} {A B R : HP} (h : Mem wb w (A * (B * R))) : Mem wb w (B * (A * R)) := h.eq (by ac_rfl)
theorem Mem.p2 {wb w : World} {A B C R : HP} (h : Mem wb w (A * (B * (C * R)))) : Mem wb w (C * (A * (B * R))) := h.eq (by ac_rfl)
theorem Mem.p3 {wb w : World} {A B C D R : HP} (h : Mem wb w (A * (B * (C * (D * R))))) : Mem wb w (D * (A * (B * (C * R)))) := h.eq (by ac_rfl)
theorem Mem.p4 {wb w : World} {A B C D E R : HP} (h : Mem wb w (A * (B * (C * (D * (E * R)))))) : Mem wb w (E * (A * (B * (C * (D * R))))) := h.eq (by ac_rfl)
theorem Mem.p5 {wb w : World} {A B C D E F R : HP} (h : Mem wb w (A * (B * (C * (D * (E * (F * R))))))) : Mem wb w (F * (A * (B * (C * (D * (E * R)))))) := h.eq (by ac_rfl)
/-- the front to a later place -/
theorem Mem.q2 {wb w : World} {A B C R : HP} (h : Mem wb w (A * (B * (C * R)))) : Mem wb w (B * (C * (A * R))) := h.eq (by ac_rfl)
theorem Mem.q3 {wb w : World} {A B C D R : HP} (h : Mem wb w (A * (B * (C * (D * R))))) : Mem wb w (B * (C * (D * (A * R)))) := h.eq (by ac_rfl)
theorem Mem.q4 {wb w : World} {A B C D E R : HP} (h : Mem wb w (A * (B * (C * (D * (E * R)))))) : Mem wb w (B * (C * (D * (E * (A * R))))) := h.eq (by ac_rfl)
theorem Mem.last {wb w : World} {A R : HP} (h : Mem wb w (A * R)) : Mem wb w (R * A) := h.eq (by ac_rfl)

/-- elements of two cells -/
theorem flat2 {α : Type} (f g : α → Value) : ∀ (l : List α) (k : Nat) (x : α), l[k]? = some x → (l.flatMap fun x => [f x, g x])[k * 2]? = some (f x) ∧ (l.flatMap fun x => [f x, g x])[k * 2 + 1]? = some (g x)
  | [], k, x, h => by simp at h
  | y :: r, 0, x, h => by simp at h; subst h; simp
  | y :: r, k + 1, x, h => by
    have := flat2 f g r k x (by simpa using h)
    rw [show (k + 1) * 2 = k * 2 + 1 + 1 by omega]
    simpa using this
theorem splice_length {α : Type} (l : List α) (o : Nat) (cs : List α) (h : o + cs.length ≤ l.length) : (splice l o cs).length = l.length := by
  simp only [splice, List.length_append, List.length_take, List.length_drop]; omega
theorem splice_front {α : Type} (l r cs : List α) (o : Nat) (h : o + cs.length ≤ l.length) : splice (l ++ r) o cs = splice l o cs ++ r := by
  simp only [splice]
  rw [List.take_append_of_le_length (by omega), List.drop_append_of_le_length (by omega)]
  simp
theorem splice_map {α β : Type} (f : α → β) (l cs : List α) (o : Nat) : splice (l.map f) o (cs.map f) = (splice l o cs).map f := by
  simp [splice]
end Go.Le
