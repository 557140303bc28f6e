/- The walk of WalIdle, by the engine. -/
import Derived.Test.YtpaebopmppbjbaaGreatDoorWdM
set_option linter.unusedVariables false
set_option linter.unusedSimpArgs false
namespace Go.Proofs.YtpaebopmppbjbaaGreatDoor
open Go Go.RowKit Go.Le Go.Eng
theorem enteredT_con (P : Hp) (a0 b0 : Int) (ta : Option Addr) (tc : Nat) (c : Cont) (a1 : -9223372036854775808 ≤ a0) (a2 : a0 ≤ 9223372036854775807) (b1 : -9223372036854775808 ≤ b0) (b2 : b0 ≤ 9223372036854775807) (p more : Nat) (hp : (p : Int) = 1 + a0 % 20) (hmo : (more : Int) = b0 % 4) (n : Nat) (hnn : n = 4 * p + 1 + more) :
    Con Tryz.prog [] 5 [.agg [.raw (.int .i64 a0), .raw (.int .i64 b0), .rs ta tc c]] P [] fun x P' H' => ∃ (pc : Nat) (D' : Dev), Rm D' n p (List.replicate p (zrs 1024)) ∧ D'.armed = 0 ∧ x = .tup [.ptr 30 0, .raw (.bool true)] ∧ P' = P ∧
      H' = [rmC 30 31 32 p more 33 pc, rowC 33 pc (List.replicate p (zrs 1024)), lgC 32 31 p (.raw .nilIface), dC 31 D'] := by
  refine (Con.args (entered_con P a0 b0 (.slice ta c.l.length tc) a1 a2 b1 b2 p more hp hmo n hnn) (fun ρ => by simp only [denL, SV.den]) (fun ρ wb _ => by simp only [okL, SV.ok, and_true])).mono ?_
  rintro x P' H' ⟨pc, D', h1, h2, h3, rfl, rfl, rfl⟩
  exact ⟨pc, D', Rm.new h1 h2 h3, h1.armed, rfl, rfl, rfl⟩
end Go.Proofs.YtpaebopmppbjbaaGreatDoor
