/- append onto an owned row: what stood there can still be read where it stood. -/
import Derived.Test.YtpaebopmppbjbaaMem
set_option linter.unusedVariables false
set_option linter.unusedSimpArgs false
namespace Go.Le
open Go Go.RowKit

theorem run_app_keep {P : Program} {w : World} (B : Nat) (t ty e : TypeId) {i : TypeInfo} {z : Value} {bytes : Nat} (ht : P.underlying t = some (.slice e)) (hi : P.info? e = some i) (hz : i.zero = some z)
    (hsize : i.size = 1) (hby : i.bytes = bytes) {da : Option Addr} {dn dc : Nat} {xs : List Value} (hd : Ow w B e da dn dc xs)
    {sa : Option Addr} {m sc : Nat} {news : List Value} (hs : Sl w sa m sc news) (h1 : ∀ u ∈ news, u.oneCell' = true) (h63 : dn + m ≤ maxLen) (hbytes : (dn + m) * bytes ≤ 140737488355328)
    {v : Value} {w' : World} (hr : (Builtin.append_ #[t, t] ty #[.slice da dn dc, .slice sa m sc]).run P w = .ok v w') : Sl w' da dn dc xs := by
  have hsl := hd.sl
  cases sa with
  | none =>
    have hc := hs.nil rfl
    have hle := hs.le
    obtain rfl : sc = 0 := hc
    obtain rfl : m = 0 := by omega
    have hr2 := run_append_owned_none (P := P) (w := w) B t ty e i 1 ht hi _ dn xs hd
    rw [hr] at hr2
    simp only [Result.ok.injEq] at hr2
    rw [hr2.2]
    exact hsl
  | some p =>
    have hcells : ∀ j u, news[j]? = some u → w.cell? (p.add j) = some u := by
      intro j u hu
      have hj : j < m := by rw [← hs.len]; exact (List.getElem?_eq_some_iff.1 hu).1
      have hsp := hs.spot p rfl (by have := hs.le; omega)
      have e1 : p.add j = ⟨p.block, p.off + j, none⟩ := by cases p; simp only at hsp; subst hsp; exact Addr.add_lit _ _ _
      rw [e1, hs.cell j hj p rfl, hu]
    have hl := hs.len
    have hdl : xs.length = dn * 1 := hd.1
    rcases hd.2 with ⟨hv, hn0⟩ | ⟨g, cap, cur, hv, hBg, hg, hnc, hcm, hcs, htake⟩
    · simp only [Value.slice.injEq] at hv
      obtain ⟨rfl, rfl, rfl⟩ := hv
      have : xs = [] := List.eq_nil_of_length_eq_zero (by simpa using hdl)
      subst this
      exact Sl.nil' _
    · simp only [Value.slice.injEq] at hv
      obtain ⟨rfl, -, rfl⟩ := hv
      by_cases hroom : dn + m ≤ dc
      · have hr2 := run_append_room (P := P) w t ty e i ht hi g dn dc cur hg p m sc news (by rw [hsize]; omega) hcells h1 hroom (by rw [hsize]; omega)
        rw [hr] at hr2
        simp only [Result.ok.injEq] at hr2
        rw [hr2.2]
        refine ⟨hsl.len, hsl.le, hsl.cap, hsl.nil, hsl.spot, fun k hk q hq => ?_⟩
        cases hq
        rw [cell_of_row _ g (0 + k) _ e (0, 0) (setRow_heap w g cur _ e _ hg)]
        simp only [hsize, Nat.zero_add, List.getElem?_toArray, htake, List.append_assoc]
        rw [List.getElem?_append_left (by rw [hsl.len]; exact hk)]
      · have holds : ∀ j u, xs[j]? = some u → w.cell? ((⟨g, 0, none⟩ : Addr).add j) = some u := by
          intro j u hu
          rw [Addr.add_lit, cell_of_row w g (0 + j) cur e (0, 0) hg]
          have hj : j < dn := by rw [← hsl.len]; exact (List.getElem?_eq_some_iff.1 hu).1
          rw [← htake, List.getElem?_take, if_pos (by omega)] at hu
          simpa using hu
        have hr2 := run_append_grow (P := P) w t ty e i z ht hi hz ⟨g, 0, none⟩ dn dc xs (by rw [hsize]; omega) holds p m sc news (by rw [hsize]; omega) hcells (by omega) (by simp only [maxLen] at h63; omega) (growslice_fits (by omega) (by rw [hby]; exact hbytes))
        rw [hr] at hr2
        simp only [Result.ok.injEq] at hr2
        rw [hr2.2]
        exact hsl.ext (Fr.of_below (by
          exact ⟨rfl, rfl, rfl, by simp, fun k hk => Below.heap_alloc w.drew _ k hk⟩))

/-- append onto an owned row at a step of a region that draws; besides: the row is read where it stood -/
theorem step_app2 {P : Program} {w : World} {ops : Array Oper} {o : Oper} {a : Act} {K : Act → World → Prop} {Q : Exit → Act → World → Prop} {E : Prop} (hgd : o.guard = none) (s x : Operand) (t : TypeId)
    (ho : o.op = .call { callee := .builtin .append, args := #[s, x], argTypes := #[t, t] }) (B : Nat) (e : TypeId) {i : TypeInfo} {z : Value} {bytes : Nat} (ht : P.underlying t = some (.slice e)) (hi : P.info? e = some i) (hz : i.zero = some z)
    (hsize : i.size = 1) (hby : i.bytes = bytes) (hzs : z.cells.size = 1) {da : Option Addr} {dn dc : Nat} {xs : List Value} (hds : a.eval s = .slice da dn dc) {sa : Option Addr} {m sc : Nat} {news : List Value} (hsx : a.eval x = .slice sa m sc)
    (hd : Ow w B e da dn dc xs) (hs : Sl w sa m sc news) (h1 : ∀ u ∈ news, u.oneCell' = true) (h63 : dn + m ≤ maxLen) (hbytes : (dn + m) * bytes ≤ 140737488355328) (hB : B ≤ w.heap.size)
    (h : ∀ a' c' w', Ow w' B e a' (dn + m) c' (xs ++ news) → Sl w' da dn dc xs → Fr w.heap.size (blk da) w w' → (a' = none ↔ da = none ∧ m = 0) → (∀ p, a' = some p → p.block ∈ blk da ∨ p.block = w.heap.size) → K (a.put o.dst (.slice a' (dn + m) c')) w') :
    if Region.wanted o (yielded ops a.tmps) = true then Oper.wp P o a w K Q else E := by
  have hw : Region.wanted o (yielded ops a.tmps) = true := by simp [Region.wanted, hgd]
  rw [if_pos hw]
  obtain ⟨a', c', w', hr, h2, h3, h4, h5⟩ := run_app (P := P) (w := w) B t o.type e ht hi hz hsize hby hzs hd hs h1 h63 hbytes hB
  have hk := run_app_keep (P := P) (w := w) B t o.type e ht hi hz hsize hby hd hs h1 h63 hbytes hr
  unfold Oper.wp
  simp [execOp, ho, resolve, invoke, builtin, hds, hsx, hr, Result.andThen]
  exact h a' c' w' h2 hk h3 h4 h5
end Go.Le
