/- What the bound on the input's bulk gives. -/
import Derived.Test.YtpdppacafkdgdaaRows
set_option linter.unusedVariables false
set_option linter.unusedSimpArgs false
namespace Go.Proofs.Ytpdppacafkdgdaa.bulk
open Go
theorem pos {H : Type} (d : DataW H) : 0 < Rows.uptoBulk d := by
  cases d with
  | lit l => cases l <;> simp [Rows.uptoBulk]
  | _ => simp [Rows.uptoBulk]
theorem all_length {H : Type} : ∀ l : List (DataW H), l.length ≤ Rows.uptoBulkAll l
  | [] => by simp [Rows.uptoBulkAll]
  | d :: l => by have := pos d; have := all_length l; simp only [Rows.uptoBulkAll, List.length_cons]; omega
theorem mem_all {H : Type} {d : DataW H} : ∀ {l : List (DataW H)}, d ∈ l → Rows.uptoBulk d ≤ Rows.uptoBulkAll l
  | x :: l, h => by
    simp only [Rows.uptoBulkAll]
    rcases List.mem_cons.1 h with rfl | h
    · omega
    · have := mem_all h; omega
/-- a slice among a struct's fields -/
theorem field {H : Type} (ds : List (DataW H)) (elems spare : List (DataW H)) (h : DataW.slice elems spare ∈ ds) : elems.length ≤ Rows.uptoBulk (.agg ds) := by
  have h1 := mem_all h
  have h2 := all_length elems
  simp only [Rows.uptoBulk] at h1 ⊢
  omega
theorem of_mem {H : Type} {d : DataW H} {ds : List (DataW H)} (h : d ∈ ds) (hk : Rows.uptoSmall H ds = true) : Rows.uptoBulk d ≤ 1048576 := by
  have h0 : Rows.uptoBulkAll ds ≤ 1048576 := of_decide_eq_true hk
  have h1 := mem_all h
  omega
/-- an element of a slice that came in -/
theorem elem {H : Type} {n : Nat} (D : Nat → DataW H) (sp : List (DataW H)) {ds : List (DataW H)} (h : DataW.slice ((List.range n).map D) sp ∈ ds) (hk : Rows.uptoSmall H ds = true) (i : Nat) (hi : i < n) : Rows.uptoBulk (D i) ≤ 1048576 := by
  have h0 : Rows.uptoBulkAll ds ≤ 1048576 := of_decide_eq_true hk
  have h1 := mem_all h
  have h2 : Rows.uptoBulk (D i) ≤ Rows.uptoBulkAll ((List.range n).map D) := mem_all (List.mem_map.2 ⟨i, List.mem_range.2 hi, rfl⟩)
  simp only [Rows.uptoBulk] at h1
  omega
/-- a slice that came in -/
theorem slice {H : Type} {elems sp ds : List (DataW H)} (h : DataW.slice elems sp ∈ ds) (hk : Rows.uptoSmall H ds = true) : elems.length ≤ 1048576 := by
  have h0 : Rows.uptoBulkAll ds ≤ 1048576 := of_decide_eq_true hk
  have h1 := mem_all h
  have h2 := all_length elems
  simp only [Rows.uptoBulk] at h1
  omega
end Go.Proofs.Ytpdppacafkdgdaa.bulk
