/- The walks of wal's caught, begun. -/
import Derived.Test.YtpaebopmppbjbaaWal7
import Derived.Defers
import Derived.Recover
set_option linter.unusedVariables false
set_option linter.unusedSimpArgs false
namespace Go.Proofs.Ytpaebopmppbjbaa
open Go Go.RowKit Go.Le

set_option maxRecDepth 20000 in
set_option maxHeartbeats 1000000 in
theorem caught1_panicking (p : Addr) (x c : Int) (w : World) (hc : w.cell? p = some (.int .i64 x)) (hz : w.frozen? p = false) :
    CallsD Try.prog 38 #[.pointer (some p)] (.panicking [errP 45 c]) w fun e u' w' =>
      e = .returned (.tuple #[]) ∧ u' = .panicking [{ v := .iface 45 (.int .i64 c), recovered := true }] ∧ w' = w.setCell p (.int .i64 c) := by
  have hta : ∀ (c : Int) (w : World), (Instr.typeAssert (.iface 45 (.int .i64 c)) 20 45 true).run Try.prog w = .ok (.tuple #[.int .i64 c, .bool true]) w := fun _ _ => by kernel_rfl
  unfold errP
  refine callsD_of_wpS Try.func38 rfl fun c₀ cs hu => ?_
  apply wpS_seq
  apply wpS_region
  simp [wpOpsS, go_sem, recoverD, hu, Try.ntmps38, Exit.thenS]
  refine wpS_of_wp ?_
  show Code.wp _ _ _ ⟨#[.pointer (some p), undef, undef, undef, .iface 45 (.int .i64 c), undef, undef, undef, undef, undef, undef], []⟩ w
  have HU := hid hu
  clear hu
  obtain ⟨bl, off, sp⟩ := p
  obtain rfl : sp = none := by simpa using World.cell?_spot hc
  refine wp_mono (Q := fun e a w' => e = .normal ∧ a.defers = [] ∧ w' = w.setCell ⟨bl, off, none⟩ (.int .i64 c)) ?_ ?_
  · go_wp2
  · rintro e a w' ⟨rfl, hd, rfl⟩
    have hu := HU.out
    cases c₀
    simp_all [bodyPostS, results, Try.results38]

theorem caught1_idle (p : Addr) (w : World) :
    CallsD Try.prog 38 #[.pointer (some p)] .returning w fun e u' w' => e = .returned (.tuple #[]) ∧ u' = .returning ∧ w' = w := by
  refine callsD_of_wpS Try.func38 rfl fun c₀ cs hu => ?_
  apply wpS_seq
  apply wpS_region
  simp [wpOpsS, go_sem, recoverD, hu, Try.ntmps38, Exit.thenS]
  refine wpS_of_wp ?_
  show Code.wp _ _ _ ⟨#[.pointer (some p), undef, undef, undef, .nilIface, undef, undef, undef, undef, undef, undef], []⟩ w
  have HU := hid hu
  clear hu
  refine wp_mono (Q := fun e a w' => e = .normal ∧ a.defers = [] ∧ w' = w) ?_ ?_
  · go_wp2
  · rintro e a w' ⟨rfl, hd, rfl⟩
    have hu := HU.out
    cases c₀
    simp_all [bodyPostS, results, Try.results38]

set_option maxRecDepth 20000 in
set_option maxHeartbeats 1000000 in
/-- a call whose disk may give up, caught -/
theorem caught_any (wb w : World) (A : HP) (B : Int → HP) (R : HP) (h : Mem wb w (A * R)) (k : FuncId) (caps : Array Value)
    (hk : ∀ w : World, (callFunc k caps).run Try.prog w = .ok (.enter k caps) w)
    (hdo : ∀ w1 R1, Mem wb w1 (A * R1) → Calls Try.prog k caps w1 fun e w2 => (e = .returned (.tuple #[]) ∧ Mem wb w2 (B 0 * R1)) ∨ ∃ c, e = .panicked [errP 45 c] ∧ c ≠ 0 ∧ Mem wb w2 (B c * R1)) :
    Calls Try.prog 17 #[.func (.func k) #[] caps] w fun e w' => ∃ c, e = .returned (.int .i64 c) ∧ Mem wb w' (B c * R) := by
  have hmf : ∀ (fn : Fn) (first cap : Array Value) (w : World), (Instr.makeFunc fn first cap).run Try.prog w = .ok (.func fn first cap) w := fun _ _ _ _ => rfl
  have hbx := h.alloc [.int .i64 0] 45
  have HD := hid (hdo _ (pts w.heap.size 45 [.int .i64 0] * R) (hbx.eq (by ac_rfl)))
  clear h hbx hdo
  go_enter_defers Try.func17, Try.ntmps17
  go_wp2_with fail
  refine HD.out.mono ?_
  rintro e w2 (⟨rfl, hm⟩ | ⟨c, rfl, hc, hm⟩)
  · dsimp only
    have hb := hm.p1
    have hc0 := hb.cell 0
    have hf0 := hb.frozen 0
    simp only [List.getElem?_cons_zero] at hc0
    have HM := hid (hb.setCell 0 (.int .i64 0))
    clear hm hb HD
    go_wp2_with fail
    refine leaves_cons (f := 38) (args := #[.pointer (some ⟨w.heap.size, 0, none⟩)]) (by simp) (by simp [go_sem]) ?_
    refine (caught1_idle ⟨w.heap.size, 0, none⟩ _).mono ?_
    rintro e u' w'' ⟨rfl, rfl, rfl⟩
    have hc1 := HM.out.cell 0
    simp only [List.set_cons_zero, List.getElem?_cons_zero] at hc1
    refine ⟨.int .i64 0, by simp [results, Try.results17, go_sem, hc1], 0, rfl, HM.out.right⟩
  · show bodyPostD _ _ _ (Exit.panic _) _ _
    have hb := hm.p1
    have hc0 := hb.cell 0
    have hf0 := hb.frozen 0
    simp only [List.getElem?_cons_zero] at hc0
    have HM := hid (hb.setCell 0 (.int .i64 c))
    clear hm hb HD
    refine leaves_cons (f := 38) (args := #[.pointer (some ⟨w.heap.size, 0, none⟩)]) (by simp) (by simp [go_sem]) ?_
    refine (caught1_panicking ⟨w.heap.size, 0, none⟩ 0 c _ hc0 hf0).mono ?_
    rintro e u' w'' ⟨rfl, rfl, rfl⟩
    have hc1 := HM.out.cell 0
    simp only [List.set_cons_zero, List.getElem?_cons_zero] at hc1
    have HF := HM.out.right
    simp [Leaves, settle, results, Try.results17, go_sem, hc1]
    exact HF
end Go.Proofs.Ytpaebopmppbjbaa
