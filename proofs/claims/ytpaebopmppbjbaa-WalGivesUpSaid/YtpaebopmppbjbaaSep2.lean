/- Operations on memory in parts: append, copy, at a plain step and in a region that draws its order. No program in sight. -/
import Derived.Test.YtpaebopmppbjbaaSep
set_option linter.unusedVariables false
set_option linter.unusedSimpArgs false
namespace Go.Le
open Go Go.RowKit
section
variable {wb w : World} {A R : HP} {e : TypeId}

theorem wpList_append {P : Program} {ops : Array Oper} {rest : List Oper} {o : Oper} {ac : Act} {Q : Exit → Act → World → Prop} (hgd : o.guard = none) (so xo : Operand) (t : TypeId)
    (ho : o.op = .call { callee := .builtin .append, args := #[so, xo], argTypes := #[t, t] }) {i : TypeInfo} {z : Value} {bytes s : Nat} (ht : P.underlying t = some (.slice e)) (hi : P.info? e = some i) (hz : i.zero = some z)
    (hsize : i.size = s) (hby : i.bytes = bytes) (hzs : z.cells.size = s) (hs0 : 0 < s) {a sa : Option Addr} {n c m sc : Nat} {xs news : List Value} (hds : ac.eval so = .slice a n c) (hsx : ac.eval xo = .slice sa m sc)
    (h : Mem wb w A) (hA : A = row e s a n c xs * R) (hn : news.length = m * s) (hs : ∀ p, sa = some p → ∀ j u, news[j]? = some u → w.cell? (p.add j) = some u) (hnil : sa = none → m = 0 ∧ sc = 0) (h1 : ∀ u ∈ news, u.oneCell' = true)
    (h63 : n + m ≤ 9223372036854775807) (hbytes : (n + m) * bytes ≤ 140737488355328)
    (hk : ∀ a' c' w', Mem wb w' (duo e s a n c xs a' (n + m) c' (xs ++ news) * R) → (a' = none ↔ a = none ∧ m = 0) → (c < n + m → ∀ q, a = some q → a' ≠ a) →
      wpList P ops Q rest (ac.put o.dst (.slice a' (n + m) c')) w') : wpList P ops Q (o :: rest) ac w := by
  subst hA
  refine wpList_plain hgd fun K hK => ?_
  obtain ⟨a', c', w', hr, h2, h3, h4⟩ := h.append (P := P) t o.type ht hi hz hsize hby hzs hs0 hn hs hnil h1 h63 hbytes
  unfold Oper.wp
  simp [execOp, ho, resolve, invoke, builtin, hds, hsx, hr, Result.andThen]
  exact hK _ _ (hk a' c' w' h2 h3 h4)

theorem step_append {P : Program} {ops : Array Oper} {o : Oper} {ac : Act} {K : Act → World → Prop} {Q : Exit → Act → World → Prop} {E : Prop} (hgd : o.guard = none) (so xo : Operand) (t : TypeId)
    (ho : o.op = .call { callee := .builtin .append, args := #[so, xo], argTypes := #[t, t] }) {i : TypeInfo} {z : Value} {bytes s : Nat} (ht : P.underlying t = some (.slice e)) (hi : P.info? e = some i) (hz : i.zero = some z)
    (hsize : i.size = s) (hby : i.bytes = bytes) (hzs : z.cells.size = s) (hs0 : 0 < s) {a sa : Option Addr} {n c m sc : Nat} {xs news : List Value} (hds : ac.eval so = .slice a n c) (hsx : ac.eval xo = .slice sa m sc)
    (h : Mem wb w A) (hA : A = row e s a n c xs * R) (hn : news.length = m * s) (hs : ∀ p, sa = some p → ∀ j u, news[j]? = some u → w.cell? (p.add j) = some u) (hnil : sa = none → m = 0 ∧ sc = 0) (h1 : ∀ u ∈ news, u.oneCell' = true)
    (h63 : n + m ≤ 9223372036854775807) (hbytes : (n + m) * bytes ≤ 140737488355328)
    (hk : ∀ a' c' w', Mem wb w' (duo e s a n c xs a' (n + m) c' (xs ++ news) * R) → (a' = none ↔ a = none ∧ m = 0) → (c < n + m → ∀ q, a = some q → a' ≠ a) → K (ac.put o.dst (.slice a' (n + m) c')) w') :
    if Region.wanted o (yielded ops ac.tmps) = true then Oper.wp P o ac w K Q else E := by
  subst hA
  have hw : Region.wanted o (yielded ops ac.tmps) = true := by simp [Region.wanted, hgd]
  rw [if_pos hw]
  obtain ⟨a', c', w', hr, h2, h3, h4⟩ := h.append (P := P) t o.type ht hi hz hsize hby hzs hs0 hn hs hnil h1 h63 hbytes
  unfold Oper.wp
  simp [execOp, ho, resolve, invoke, builtin, hds, hsx, hr, Result.andThen]
  exact hk a' c' w' h2 h3 h4

/-- what is appended: one element, just built -/
theorem news_built {w : World} {news : List Value} {e : TypeId} {g : Nat} (hg : Blk w g e news) : ∀ p : Addr, some (⟨g, 0, none⟩ : Addr) = some p → ∀ j u, news[j]? = some u → w.cell? (p.add j) = some u := by
  intro p hp j u hu
  cases hp
  rw [Addr.add_lit, hg.cell, Nat.zero_add, hu]
theorem news_sl {w : World} {a : Option Addr} {n c : Nat} {news : List Value} (h : Sl w a n c news) : ∀ p, a = some p → ∀ j u, news[j]? = some u → w.cell? (p.add j) = some u := by
  intro p hp j u hu
  subst hp
  have hj : j < n := by rw [← h.len]; exact (List.getElem?_eq_some_iff.1 hu).1
  have hsp := h.spot p rfl (by have := h.le; omega)
  have e1 : p.add j = ⟨p.block, p.off + j, none⟩ := by cases p; simp only at hsp; subst hsp; exact Addr.add_lit _ _ _
  rw [e1, h.cell j hj p rfl, hu]
theorem news_nil {w : World} {a : Option Addr} {n c : Nat} {news : List Value} (h : Sl w a n c news) : a = none → n = 0 ∧ c = 0 := by
  intro ha
  have h1 := h.nil ha
  have h2 := h.le
  omega

/-- copy into a row that is owned, or a cut of it -/
theorem Mem.copy {P : Program} (dT sT ty : TypeId) (ht : P.underlying dT = some (.slice e)) (hsz : (P.info? e).map (·.size) = some 1) {g : Nat} {te : TypeId} {cur ss : List Value} (h : Mem wb w (pts g te cur * R)) {dp sa : Option Addr} {dn dc sn sc : Nat}
    (off k : Nat) (hk : k = Nat.min sn dn) (hdp : 0 < k → dp = some ⟨g, off, none⟩) (hfit : off + k ≤ cur.length) (hs : Sl w sa sn sc ss) (h1 : ∀ u ∈ ss, u.oneCell' = true) :
    ∃ w', (Builtin.copy_ #[dT, sT] ty #[.slice dp dn dc, .slice sa sn sc]).run P w = .ok (goInt k) w' ∧ Mem wb w' (pts g te (splice cur off (ss.take k)) * R) := by
  obtain ⟨w', hr, hb, hf, _⟩ := run_cpy (P := P) (w := w) dT sT ty e ht hsz g off k hk h.blk.1 hdp hfit hs h1
  exact ⟨w', hr, h.fr1 hf hb⟩

theorem wpList_copy {P : Program} {ops : Array Oper} {rest : List Oper} {o : Oper} {ac : Act} {Q : Exit → Act → World → Prop} (hgd : o.guard = none) (d s : Operand) (dT sT : TypeId)
    (ho : o.op = .call { callee := .builtin .copy, args := #[d, s], argTypes := #[dT, sT] }) (ht : P.underlying dT = some (.slice e)) (hsz : (P.info? e).map (·.size) = some 1) {dp sa : Option Addr} {dn dc sn sc : Nat}
    (hd : ac.eval d = .slice dp dn dc) (hss : ac.eval s = .slice sa sn sc) {g : Nat} {te : TypeId} {cur ss : List Value} (h : Mem wb w A) (hA : A = pts g te cur * R)
    (off k : Nat) (hk : k = Nat.min sn dn) (hdp : 0 < k → dp = some ⟨g, off, none⟩) (hfit : off + k ≤ cur.length) (hs : Sl w sa sn sc ss) (h1 : ∀ u ∈ ss, u.oneCell' = true)
    (hk' : ∀ w', Mem wb w' (pts g te (splice cur off (ss.take k)) * R) → wpList P ops Q rest (ac.put o.dst (goInt k)) w') : wpList P ops Q (o :: rest) ac w := by
  subst hA
  refine wpList_plain hgd fun K hK => ?_
  obtain ⟨w', hr, h2⟩ := h.copy (P := P) dT sT o.type ht hsz off k hk hdp hfit hs h1
  unfold Oper.wp
  simp only [execOp, ho, resolve, invoke, builtin, hd, hss, Sem.run_bind, Sem.run_pure, Result.andThen_ok, List.map_toArray, List.map_cons, List.map_nil]
  rw [hr]
  exact hK _ _ (hk' w' h2)

theorem step_copy {P : Program} {ops : Array Oper} {o : Oper} {ac : Act} {K : Act → World → Prop} {Q : Exit → Act → World → Prop} {E : Prop} (hgd : o.guard = none) (d s : Operand) (dT sT : TypeId)
    (ho : o.op = .call { callee := .builtin .copy, args := #[d, s], argTypes := #[dT, sT] }) (ht : P.underlying dT = some (.slice e)) (hsz : (P.info? e).map (·.size) = some 1) {dp sa : Option Addr} {dn dc sn sc : Nat}
    (hd : ac.eval d = .slice dp dn dc) (hss : ac.eval s = .slice sa sn sc) {g : Nat} {te : TypeId} {cur ss : List Value} (h : Mem wb w A) (hA : A = pts g te cur * R)
    (off k : Nat) (hk : k = Nat.min sn dn) (hdp : 0 < k → dp = some ⟨g, off, none⟩) (hfit : off + k ≤ cur.length) (hs : Sl w sa sn sc ss) (h1 : ∀ u ∈ ss, u.oneCell' = true)
    (hk' : ∀ w', Mem wb w' (pts g te (splice cur off (ss.take k)) * R) → K (ac.put o.dst (goInt k)) w') :
    if Region.wanted o (yielded ops ac.tmps) = true then Oper.wp P o ac w K Q else E := by
  subst hA
  have hw : Region.wanted o (yielded ops ac.tmps) = true := by simp [Region.wanted, hgd]
  rw [if_pos hw]
  obtain ⟨w', hr, h2⟩ := h.copy (P := P) dT sT o.type ht hsz off k hk hdp hfit hs h1
  unfold Oper.wp
  simp only [execOp, ho, resolve, invoke, builtin, hd, hss, Sem.run_bind, Sem.run_pure, Result.andThen_ok, List.map_toArray, List.map_cons, List.map_nil]
  rw [hr]
  exact hk' w' h2
end

theorem Sl.take {w : World} {a : Option Addr} {n c : Nat} {xs : List Value} (h : Sl w a n c xs) (m : Nat) (hm : m ≤ n) : Sl w a m c (xs.take m) :=
  ⟨by rw [List.length_take, h.len]; omega, by have := h.le; omega, h.cap, h.nil, h.spot, fun i hi p hp => by
    rw [h.cell i (by omega) p hp, List.getElem?_take, if_pos hi]⟩
theorem Sl.drew {w : World} {a : Option Addr} {n c : Nat} {xs : List Value} (h : Sl w a n c xs) : Sl w.drew a n c xs := ⟨h.len, h.le, h.cap, h.nil, h.spot, h.cell⟩
theorem Sl.drewN {w : World} {a : Option Addr} {n c : Nat} {xs : List Value} (h : Sl w a n c xs) (k : Nat) : Sl (w.drewN k) a n c xs := ⟨h.len, h.le, h.cap, h.nil, h.spot, h.cell⟩
theorem byts_take (l : List UInt8) (n : Nat) : (byts l).take n = byts (l.take n) := by simp [byts]
theorem byts_drop (l : List UInt8) (n : Nat) : (byts l).drop n = byts (l.drop n) := by simp [byts]
theorem byts_splice (l r : List UInt8) (o : Nat) : splice (byts l) o (byts r) = byts (splice l o r) := by simp [splice, byts]
/-- one part to the front -/
theorem Mem.p1 {wb w : World} {A B R : HP} (h : Mem wb w (A * (B * R))) : Mem wb w (B * (A * R)) := h.eq (by ac_rfl)
theorem Mem.p2 {wb w : World} {A B C R : HP} (h : Mem wb w (A * (B * (C * R)))) : Mem wb w (C * (A * (B * R))) := h.eq (by ac_rfl)
theorem Mem.p3 {wb w : World} {A B C D R : HP} (h : Mem wb w (A * (B * (C * (D * R))))) : Mem wb w (D * (A * (B * (C * R)))) := h.eq (by ac_rfl)
theorem Mem.p4 {wb w : World} {A B C D E R : HP} (h : Mem wb w (A * (B * (C * (D * (E * R)))))) : Mem wb w (E * (A * (B * (C * (D * R))))) := h.eq (by ac_rfl)
theorem Mem.p5 {wb w : World} {A B C D E F R : HP} (h : Mem wb w (A * (B * (C * (D * (E * (F * R))))))) : Mem wb w (F * (A * (B * (C * (D * (E * R)))))) := h.eq (by ac_rfl)
theorem Mem.p6 {wb w : World} {A B C D E F G R : HP} (h : Mem wb w (A * (B * (C * (D * (E * (F * (G * R)))))))) : Mem wb w (G * (A * (B * (C * (D * (E * (F * R))))))) := h.eq (by ac_rfl)
/-- the front to a later place -/
theorem Mem.q2 {wb w : World} {A B C R : HP} (h : Mem wb w (A * (B * (C * R)))) : Mem wb w (B * (C * (A * R))) := h.eq (by ac_rfl)
theorem Mem.q3 {wb w : World} {A B C D R : HP} (h : Mem wb w (A * (B * (C * (D * R))))) : Mem wb w (B * (C * (D * (A * R)))) := h.eq (by ac_rfl)
theorem Mem.q4 {wb w : World} {A B C D E R : HP} (h : Mem wb w (A * (B * (C * (D * (E * R)))))) : Mem wb w (B * (C * (D * (E * (A * R))))) := h.eq (by ac_rfl)
theorem Mem.last {wb w : World} {A R : HP} (h : Mem wb w (A * R)) : Mem wb w (R * A) := h.eq (by ac_rfl)

/-- elements of two cells -/
theorem flat2 {α : Type} (f g : α → Value) : ∀ (l : List α) (k : Nat) (x : α), l[k]? = some x → (l.flatMap fun x => [f x, g x])[k * 2]? = some (f x) ∧ (l.flatMap fun x => [f x, g x])[k * 2 + 1]? = some (g x)
  | [], k, x, h => by simp at h
  | y :: r, 0, x, h => by simp at h; subst h; simp
  | y :: r, k + 1, x, h => by
    have := flat2 f g r k x (by simpa using h)
    rw [show (k + 1) * 2 = k * 2 + 1 + 1 by omega]
    simpa using this
theorem flat2_length {α : Type} (f g : α → Value) (l : List α) : (l.flatMap fun x => [f x, g x]).length = l.length * 2 := by
  induction l with
  | nil => rfl
  | cons y r ih => simp only [List.flatMap_cons, List.length_append, List.length_cons, List.length_nil, ih]; omega
theorem splice_length {α : Type} (l : List α) (o : Nat) (cs : List α) (h : o + cs.length ≤ l.length) : (splice l o cs).length = l.length := by
  simp only [splice, List.length_append, List.length_take, List.length_drop]; omega
theorem splice_front {α : Type} (l r cs : List α) (o : Nat) (h : o + cs.length ≤ l.length) : splice (l ++ r) o cs = splice l o cs ++ r := by
  simp only [splice]
  rw [List.take_append_of_le_length (by omega), List.drop_append_of_le_length (by omega)]
  simp
theorem splice_map {α β : Type} (f : α → β) (l cs : List α) (o : Nat) : splice (l.map f) o (cs.map f) = (splice l o cs).map f := by
  simp [splice]
end Go.Le
