/- The engine in use: what is left to show, by its usual arguments. No program in sight. -/
import Derived.Test.YtpdppacafkdgdaaEn17
set_option linter.unusedVariables false
set_option linter.unusedSimpArgs false
namespace Go.Eng
open Go Go.RowKit Go.Le
@[simp] theorem bytes_l (l : List UInt8) : (bytes l).l = l := rfl
@[simp] theorem ints_l (l : List Int) : (ints l).l = l := rfl
@[simp] theorem nums_l (k : IntKind) (l : List Int) : (nums k l).l = l := rfl
@[simp] theorem bools_l (l : List Bool) : (bools l).l = l := rfl
@[simp] theorem lits_l (s : Nat) (l : List (List Cell)) : (lits s l).l = l := rfl
@[simp] theorem flat_l (s : Nat) (l : List (List Value)) : (flat s l).l = l := rfl
theorem ar {e : Int} {K : Int → Prop} (h1 : -9223372036854775808 ≤ e) (h2 : e ≤ 9223372036854775807) (hK : K e) : ArithVC .i64 e K := .fits (by rw [IntKind.wrap_i64]; omega) hK
theorem ar8 {e : Int} {K : Int → Prop} (h1 : 0 ≤ e) (h2 : e ≤ 255) (hK : K e) : ArithVC .u8 e K := .fits (by simp [IntKind.wrap, IntKind.bits, IntKind.signed]; omega) hK
theorem ix {k len : Nat} {K : Nat → Prop} (h : k < len) (hK : K k) : IdxVC (k : Int) len K := .mk k rfl h hK
theorem bx {b : Bool} {p q : Prop} (h : b = true → p) (h' : b = false → q) : (Bool.rec q p b : Prop) := by
  cases b
  · exact h' rfl
  · exact h rfl
theorem bxd {c : Prop} [Decidable c] {p q : Prop} (h : c → p) (h' : ¬ c → q) : (Bool.rec q p (decide c) : Prop) := bx (fun e => h (of_decide_eq_true e)) (fun e => h' (of_decide_eq_false e))
theorem bxn {c : Prop} [Decidable c] {p q : Prop} (h : ¬ c → p) (h' : c → q) : (Bool.rec q p (!decide c) : Prop) := bx (fun e => h (by simpa using e)) (fun e => h' (by simpa using e))
theorem ap {need b : Nat} {K : Nat → Prop} (h : need * b ≤ 140737488355328) (h2 : need ≤ 9223372036854775807) (hK : ∀ cap, need ≤ cap → cap ≤ 9223372036854775807 → K cap) : AppVC need b K := .mk h h2 hK
end Go.Eng
