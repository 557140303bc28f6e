/- The walks of wal's Clear, of Open and Clear of no disk, of Pages. -/
import Derived.Test.YtpaebopmppbjbaaWal12
set_option linter.unusedVariables false
set_option linter.unusedSimpArgs false
namespace Go.Proofs.Ytpaebopmppbjbaa
open Go Go.RowKit Go.Le
/-- what Clear answers -/
def ClearSays (wb : World) (g : Nat) (R : HP) (res : Except Int Unit × Dev) (e : Ending) (w' : World) : Prop :=
  match res with
  | (.ok _, D') => e = .returned .nilIface ∧ Mem wb w' (devAt T8 g D' * R)
  | (.error c, D') => ∃ v, e = .returned v ∧ c ≠ 0 ∧ Mem wb w' (faultB ⟨#[67, 108, 101, 97, 114]⟩ 0 c v * (devAt T8 g D' * R))
theorem enters24 (args : Array Value) (w : World) : (callFunc 24 args).run Try.prog w = .ok (.enter 24 args) w :=
  enters_body Try.func24 (by kernel_rfl) rfl args w
def clearB (g bd : Nat) (D : Dev) (c : Int) : HP := ex fun D' : Dev => pur (ioClear D = ((if c = 0 then .ok () else .error c), D')) * (devAt T8 g D' * pts bd 41 [.pointer (some ⟨g, 0, none⟩)])

set_option maxRecDepth 20000 in
set_option maxHeartbeats 4000000 in
theorem Clear_any (wb w0 : World) (R : HP) (g : Nat) (D : Dev) (h : Mem wb w0 (devAt T8 g D * R)) (hpl : D.pend.length ≤ 700000000) :
    Calls Try.prog 6 #[.pointer (some ⟨g, 0, none⟩)] w0 (ClearSays wb g R (ioClear D)) := by
  have hmf : ∀ (fn : Fn) (first cap : Array Value) (w : World), (Instr.makeFunc fn first cap).run Try.prog w = .ok (.func fn first cap) w := fun _ _ _ _ => rfl
  have h1 := h.alloc [.pointer (some ⟨g, 0, none⟩)] 41
  have HCA := hid (caught_any wb _ (devAt T8 g D * pts w0.heap.size 41 [.pointer (some ⟨g, 0, none⟩)]) (clearB g w0.heap.size D) R (h1.eq (by ac_rfl)) 24 #[.pointer (some ⟨w0.heap.size, 0, none⟩)] (fun w => enters24 _ w)
    (fun w1 R1 hm1 => (Clear1_any wb w1 R1 g w0.heap.size D (hm1.eq (by ac_rfl)) hpl).mono fun e w2 hs => by
      obtain ⟨r, hr⟩ : ∃ r, ioClear D = r := ⟨_, rfl⟩
      rw [hr] at hs
      rcases r with ⟨c | u, D'⟩
      · obtain ⟨rfl, hc, hm⟩ := hs.error rfl
        refine .inr ⟨c, rfl, hc, ?_⟩
        unfold clearB
        refine Mem.exl.2 ⟨D', ?_⟩
        rw [sep_assoc, Mem.pur, if_neg hc]
        exact ⟨hr, hm.eq (by ac_rfl)⟩
      · obtain ⟨rfl, hm⟩ := hs.unit rfl
        refine .inl ⟨rfl, ?_⟩
        unfold clearB
        refine Mem.exl.2 ⟨D', ?_⟩
        rw [sep_assoc, Mem.pur, if_pos rfl]
        exact ⟨hr, hm.eq (by ac_rfl)⟩))
  clear h h1
  go_enter Try.func6, Try.ntmps6
  go_wp2_with fail
  refine HCA.out.mono ?_
  rintro e w2 ⟨c, rfl, hm⟩
  dsimp only
  clear HCA
  unfold clearB at hm
  obtain ⟨D', hm1⟩ := Mem.exl.1 hm
  rw [sep_assoc, Mem.pur] at hm1
  obtain ⟨hio, hm2⟩ := hm1
  clear hm
  by_cases hc : c = 0
  · subst hc
    rw [if_pos rfl] at hio
    have HIO := hid hio
    have HM := (hm2.eq (by ac_rfl) : Mem wb w2 (pts w0.heap.size 41 [.pointer (some ⟨g, 0, none⟩)] * (devAt T8 g D' * R))).right
    have HM := hid HM
    clear hm2 hio
    go_wp2_with fail
    go_ret
    rw [HIO.out]
    exact ⟨rfl, HM.out⟩
  · rw [if_neg hc] at hio
    have HIO := hid hio
    have HC := hid hc
    have hcn : (c != 0) = true := by simpa using hc
    have HFA := hid (fault_any wb w2 _ hm2 ⟨#[67, 108, 101, 97, 114]⟩ 0 c)
    clear hm2 hio hc
    go_wp2_with fail
    refine HFA.out.mono ?_
    rintro e w3 ⟨gf, rfl, hm3⟩
    dsimp only
    have HM := hid (hm3.eq (by ac_rfl) : Mem wb w3 (pts w0.heap.size 41 [.pointer (some ⟨g, 0, none⟩)] * (pts gf 77 [.string ⟨#[67, 108, 101, 97, 114]⟩, .int .i64 0, .iface 45 (.int .i64 c)] * (devAt T8 g D' * R))))
    clear hm3
    go_wp2_with fail
    go_ret
    rw [HIO.out]
    exact ⟨_, rfl, HC.out, Mem.faultB.2 ⟨gf, rfl, HM.out.right⟩⟩

set_option maxRecDepth 20000 in
theorem Open1_nil (wb w0 : World) (R : HP) (bd ba bl : Nat) (h : Mem wb w0 (pts bd 41 [.pointer none] * R)) :
    Calls Try.prog 18 #[.pointer (some ⟨bd, 0, none⟩), .pointer (some ⟨ba, 0, none⟩), .pointer (some ⟨bl, 0, none⟩)] w0 fun e w2 => e = .panicked [errP 45 3] ∧ Mem wb w2 (pts bd 41 [.pointer none] * R) := by
  have q0 := h.cell 0
  simp only [List.getElem?_cons_zero] at q0
  have HB := hid (begun_nil wb w0 _ h)
  clear h
  go_enter Try.func18, Try.ntmps18
  go_wp2_with fail
  refine HB.out.mono ?_
  rintro e w2 ⟨rfl, hm⟩
  dsimp only
  exact ⟨rfl, rfl, hm⟩
set_option maxRecDepth 20000 in
theorem Clear1_nil (wb w0 : World) (R : HP) (bd : Nat) (h : Mem wb w0 (pts bd 41 [.pointer none] * R)) :
    Calls Try.prog 24 #[.pointer (some ⟨bd, 0, none⟩)] w0 fun e w2 => e = .panicked [errP 45 3] ∧ Mem wb w2 (pts bd 41 [.pointer none] * R) := by
  have q0 := h.cell 0
  simp only [List.getElem?_cons_zero] at q0
  have HB := hid (begun_nil wb w0 _ h)
  clear h
  go_enter Try.func24, Try.ntmps24
  go_wp2_with fail
  refine HB.out.mono ?_
  rintro e w2 ⟨rfl, hm⟩
  dsimp only
  exact ⟨rfl, rfl, hm⟩

set_option maxRecDepth 20000 in
set_option maxHeartbeats 4000000 in
theorem Open_nil (wb w0 : World) (R : HP) (h : Mem wb w0 R) :
    Calls Try.prog 5 #[.pointer none] w0 fun e w' => ∃ v, e = .returned (.tuple #[.pointer none, .bool false, v]) ∧ Mem wb w' (faultB ⟨#[79, 112, 101, 110]⟩ 0 3 v * R) := by
  have hmf : ∀ (fn : Fn) (first cap : Array Value) (w : World), (Instr.makeFunc fn first cap).run Try.prog w = .ok (.func fn first cap) w := fun _ _ _ _ => rfl
  have h1 := h.alloc [.pointer none] 41
  have h2 := h1.alloc [.pointer none] 22
  have h3 := h2.alloc [.bool false] 4
  have s1 : (w0.alloc (.cells #[.pointer none] 41)).heap.size = w0.heap.size + 1 := by simp
  have s2 : ((w0.alloc (.cells #[.pointer none] 41)).alloc (.cells #[.pointer none] 22)).heap.size = w0.heap.size + 1 + 1 := by simp
  have HCA := hid (caught_any wb _ (pts w0.heap.size 41 [.pointer none] * (pts (w0.heap.size + 1 + 1) 4 [.bool false] * pts (w0.heap.size + 1) 22 [.pointer none])) (fun c => pur (c = 3) * (pts w0.heap.size 41 [.pointer none] * (pts (w0.heap.size + 1 + 1) 4 [.bool false] * pts (w0.heap.size + 1) 22 [.pointer none]))) R
    (h3.eq (by rw [← s2, ← s1]; ac_rfl)) 18 #[.pointer (some ⟨w0.heap.size, 0, none⟩), .pointer (some ⟨w0.heap.size + 1 + 1, 0, none⟩), .pointer (some ⟨w0.heap.size + 1, 0, none⟩)] (fun w => enters18 _ w)
    (fun w1 R1 hm1 => (Open1_nil wb w1 _ _ _ _ (hm1.eq (sep_assoc _ _ _))).mono fun e w2 ⟨he, hm⟩ => .inr ⟨3, he, by omega, by rw [sep_assoc, Mem.pur]; exact ⟨rfl, hm.eq (sep_assoc _ _ _).symm⟩⟩))
  clear h h1 h2 h3 s1 s2
  go_enter Try.func5, Try.ntmps5
  go_wp2_with fail
  refine HCA.out.mono ?_
  rintro e w2 ⟨c, rfl, hm⟩
  dsimp only
  rw [sep_assoc, Mem.pur] at hm
  obtain ⟨rfl, hm⟩ := hm
  have HFA := hid (fault_any wb w2 _ hm ⟨#[79, 112, 101, 110]⟩ 0 3)
  clear hm HCA
  go_wp2_with fail
  refine HFA.out.mono ?_
  rintro e w3 ⟨gf, rfl, hm3⟩
  dsimp only
  have hb1 := hm3.eq (by ac_rfl : _ = pts (w0.heap.size + 1) 22 [.pointer none] * (pts (w0.heap.size + 1 + 1) 4 [.bool false] * (pts w0.heap.size 41 [.pointer none] * (pts gf 77 [.string ⟨#[79, 112, 101, 110]⟩, .int .i64 0, .iface 45 (.int .i64 3)] * R))))
  have c1 := hb1.cell 0
  have f1 := hb1.frozen 0
  have c2 := hb1.p1.cell 0
  have f2 := hb1.p1.frozen 0
  simp only [List.getElem?_cons_zero] at c1 c2
  have hs1 := hb1.setCell 0 (.pointer none)
  have hs2 := hs1.p1.setCell 0 (.bool false)
  simp only [List.set_cons_zero] at hs2
  have HS := hid hs2
  clear hm3 hb1 hs1 hs2 HFA
  go_wp2_with fail
  have d1 := HS.out.p1.cell 0
  have d2 := HS.out.cell 0
  simp only [List.getElem?_cons_zero, List.set_cons_zero] at d1 d2
  refine bodyPost_ret (v := .tuple #[.pointer none, .bool false, .iface 75 (.pointer (some ⟨gf, 0, none⟩))]) (by simp [results, Try.results5, go_sem, d1, d2]) rfl ?_
  exact ⟨_, rfl, Mem.faultB.2 ⟨gf, rfl, HS.out.right.right.right⟩⟩

set_option maxRecDepth 20000 in
set_option maxHeartbeats 4000000 in
theorem Clear_nil (wb w0 : World) (R : HP) (h : Mem wb w0 R) :
    Calls Try.prog 6 #[.pointer none] w0 fun e w' => ∃ v, e = .returned v ∧ Mem wb w' (faultB ⟨#[67, 108, 101, 97, 114]⟩ 0 3 v * R) := by
  have hmf : ∀ (fn : Fn) (first cap : Array Value) (w : World), (Instr.makeFunc fn first cap).run Try.prog w = .ok (.func fn first cap) w := fun _ _ _ _ => rfl
  have h1 := h.alloc [.pointer none] 41
  have HCA := hid (caught_any wb _ (pts w0.heap.size 41 [.pointer none]) (fun c => pur (c = 3) * pts w0.heap.size 41 [.pointer none]) R h1 24 #[.pointer (some ⟨w0.heap.size, 0, none⟩)] (fun w => enters24 _ w)
    (fun w1 R1 hm1 => (Clear1_nil wb w1 _ _ hm1).mono fun e w2 ⟨he, hm⟩ => .inr ⟨3, he, by omega, by rw [sep_assoc, Mem.pur]; exact ⟨rfl, hm⟩⟩))
  clear h h1
  go_enter Try.func6, Try.ntmps6
  go_wp2_with fail
  refine HCA.out.mono ?_
  rintro e w2 ⟨c, rfl, hm⟩
  dsimp only
  rw [sep_assoc, Mem.pur] at hm
  obtain ⟨rfl, hm⟩ := hm
  have HFA := hid (fault_any wb w2 _ hm ⟨#[67, 108, 101, 97, 114]⟩ 0 3)
  clear hm HCA
  go_wp2_with fail
  refine HFA.out.mono ?_
  rintro e w3 ⟨gf, rfl, hm3⟩
  dsimp only
  have HM := hid hm3.p1.right
  clear hm3
  go_wp2_with fail
  go_ret
  exact ⟨_, rfl, Mem.faultB.2 ⟨gf, rfl, HM.out⟩⟩

theorem Pages_any (wb w : World) (R : HP) (g p gl : Nat) (er : Value) (h : Mem wb w (logB g p er gl * R)) :
    Calls Try.prog 30 #[.pointer (some ⟨gl, 0, none⟩)] w fun e w' => e = .returned (.int .i64 (p : Int)) ∧ w = w' := by
  unfold logB at h
  have c0 := h.cell 0
  have c1 := h.cell 1
  have c2 := h.cell 2
  simp only [List.getElem?_cons_zero, List.getElem?_cons_succ] at c0 c1 c2
  clear h
  go_enter Try.func30, Try.ntmps30
  go_wp2
  go_ret
  exact ⟨rfl, rfl⟩
end Go.Proofs.Ytpaebopmppbjbaa
