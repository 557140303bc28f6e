/- The contracts of wal and sectors, as the engine's calls take them. -/
import Derived.Test.YtpaebopmppbjbaaGreatDoorEv
import Derived.Test.YtpaebopmppbjbaaGreatDoorTab
import Derived.Test.YtpaebopmppbjbaaGreatDoorWal26M
set_option linter.unusedVariables false
set_option linter.unusedSimpArgs false
namespace Go.Eng
open Go Go.RowKit Go.Le
def strsC (l : List (List UInt8)) : Cont := ⟨1, fun b => [.v (.string ⟨b.toArray⟩)], l⟩
theorem ex_at {A : Nat → HP} (g : Nat) : (Le.ex fun g' : Nat => pur ((some ⟨g, 0, none⟩ : Option Addr) = some ⟨g', 0, none⟩) * A g') = A g := by
  funext h
  refine propext ⟨?_, fun h1 => ⟨g, _, h, fun _ => .inl rfl, rfl, ⟨rfl, rfl⟩, h1⟩⟩
  rintro ⟨g', a, b, h1, rfl, ⟨h2, rfl⟩, h4⟩
  simp only [Option.some.injEq, Addr.mk.injEq] at h2
  obtain ⟨rfl, -⟩ := h2
  exact h4
theorem blk_at {ρ : Places} {n g : Nat} (h : ρ n = some ⟨g, 0, none⟩) (e : TypeId) (cs : List SV) : Ck.den ρ (.blk n e cs) = pts g e (denL ρ cs) := by
  simp only [Ck.den]; rw [h]; exact ex_at g
/-- a device -/
def dvA (t : Ty) (D : Dev) (l : List (Option Addr)) : HP := ex fun g : Nat => pur (l.headD none = some ⟨g, 0, none⟩) * devAt t g D
def devC (t : Ty) (n : Nat) (D : Dev) : Ck := .ab 1 [n] ⟨dvA t D, fun _ => True⟩
theorem dev_at {ρ : Places} {n g : Nat} (h : ρ n = some ⟨g, 0, none⟩) (t : Ty) (D : Dev) : Ck.den ρ (devC t n D) = devAt t g D := by
  simp only [devC, Ck.den, dvA, List.map_cons, List.headD_cons]; rw [h]; exact ex_at g
theorem dev_has {ρ : Places} {wb w : World} {n : Nat} {t : Ty} {D : Dev} {A : HP} (h : Mem wb w (Ck.den ρ (devC t n D) * A)) : ∃ g, ρ n = some ⟨g, 0, none⟩ := by
  simp only [devC, Ck.den, dvA, List.map_cons, List.headD_cons] at h
  rw [Mem.exl] at h
  obtain ⟨g, h⟩ := h
  rw [sep_assoc, Mem.pur] at h
  exact ⟨g, h.1⟩
theorem row_at (ρ : Places) (n : Nat) (e : TypeId) (cap : Nat) (c : Cont) : Ck.den ρ (.row n e cap c) = Le.row e c.s (ρ n) c.l.length cap c.vals := rfl
/-- places, told one by one -/
def pl (l : List (Nat × Option Addr)) (ρ : Places) : Places := fun m => match l.find? (·.1 == m) with | some x => x.2 | none => ρ m
theorem con_pure {Pg : Program} {F : List Nat} {f : FuncId} {xs : List SV} {P : Hp} {v : Value} {args : Array Value} (he : Enters Pg f) (ha : ∀ ρ, (denL ρ xs).toArray = args) (h : ∀ w, Calls Pg f args w fun e w' => e = .returned v ∧ w = w') :
    Con Pg F f xs P [] fun x P' H' => x = .raw v ∧ P' = P ∧ H' = [] := by
  refine ⟨he, fun ρ wb w R hM _ => ?_⟩
  rw [ha]
  refine (h w).mono ?_
  rintro e w' ⟨rfl, rfl⟩
  exact ⟨ρ, .raw v, P, [], fun _ _ => rfl, rfl, by simp only [SV.ok], hM, Hp.le_refl P, rfl, rfl, rfl⟩
end Go.Eng
namespace Go.Proofs.YtpaebopmppbjbaaGreatDoor
open Go Go.RowKit Go.Le Go.Eng
abbrev dC (n : Nat) (D : Dev) : Ck := devC T8 n D
theorem fixed_con (P : Hp) : Con Tryz.prog [] 6 [] P [] fun x P' H' => x = .raw (.bool true) ∧ P' = P ∧ H' = [] := by
  refine ⟨Tryz.call6, fun ρ wb w R hM _ => ?_⟩
  refine (fixed_any wb w _ hM.mem).mono ?_
  rintro e w' ⟨rfl, hm⟩
  exact ⟨ρ, _, P, [], fun _ _ => rfl, rfl, by simp only [SV.ok], ⟨hm, trivial⟩, Hp.le_refl P, rfl, rfl, rfl⟩
theorem entered_con (P : Hp) (a0 b0 : Int) (x0 : Value) (a1 : -9223372036854775808 ≤ a0) (a2 : a0 ≤ 9223372036854775807) (b1 : -9223372036854775808 ≤ b0) (b2 : b0 ≤ 9223372036854775807) (p more : Nat) (hp : (p : Int) = 1 + a0 % 20) (hmo : (more : Int) = b0 % 4) (n : Nat) (hnn : n = 4 * p + 1 + more) :
    Con Tryz.prog [] 5 [.agg [.raw (.int .i64 a0), .raw (.int .i64 b0), .raw x0]] P [] fun x P' H' => ∃ (pc : Nat) (D' : Dev), Le.Calm D' n ∧ D'.pend = [] ∧ D'.img = zrs (n * 512) ∧ x = .tup [.ptr 30 0, .raw (.bool true)] ∧ P' = P ∧
      H' = [.blk 30 43 [.ptr 31 0, .ptr 32 0, .raw (.int .i64 (p : Int)), .raw (.int .i64 (more : Int)), .sl 33 1 0 p pc], .row 33 9 pc (strsC (List.replicate p (zrs 1024))), .blk 32 86 [.ptr 31 0, .raw (.int .i64 (p : Int)), .raw .nilIface], dC 31 D'] := by
  refine ⟨Tryz.call5, fun ρ wb w R hM _ => ?_⟩
  refine (entered_any wb w _ hM.mem a0 b0 x0 a1 a2 b1 b2 p more hp hmo n hnn).mono ?_
  rintro e w' ⟨gr, g, gl, pa, pc, D', rfl, h1, h2, h3, hm⟩
  let ρ' := pl [(30, some ⟨gr, 0, none⟩), (31, some ⟨g, 0, none⟩), (32, some ⟨gl, 0, none⟩), (33, pa)] ρ
  have e30 : ρ' 30 = some ⟨gr, 0, none⟩ := rfl
  have e31 : ρ' 31 = some ⟨g, 0, none⟩ := rfl
  have e32 : ρ' 32 = some ⟨gl, 0, none⟩ := rfl
  have e33 : ρ' 33 = pa := rfl
  have hv : Cont.vals (strsC (List.replicate p (zrs 1024))) = pstrs (List.replicate p (zrs 1024)) := by
    unfold Cont.vals strsC pstrs
    induction (List.replicate p (zrs 1024)) with
    | nil => rfl
    | cons x r ih =>
      simp only [List.map_cons, List.flatMap_cons, List.map_nil, List.cons_append, List.nil_append, Cell.den] at ih ⊢
      rw [ih]
  have hro := row_ok (hm.p1)
  refine ⟨ρ', _, P, _, fun n hn => by simp [hasN] at hn, rfl, ?_, ⟨?_, ?_⟩, Hp.le_refl P, pc, D', h1, h2, h3, rfl, rfl, rfl⟩
  · simp only [SV.ok, okL, and_true, true_and]; exact ⟨gr, e30⟩
  · refine hm.eq ?_
    simp only [star, blk_at e30, blk_at e32, dev_at e31, row_at, e33, hv, sep_emp, logB]
    have c1 : denL ρ' [.ptr 31 0, .ptr 32 0, .raw (.int .i64 (p : Int)), .raw (.int .i64 (more : Int)), .sl 33 1 0 p pc] = roomCells g gl p more pa pc := by
      simp only [denL, SV.den, e31, e32, e33, roomCells, Option.map_some]
      cases pa <;> simp [Addr.add]
    have c2 : denL ρ' [.ptr 31 0, .raw (.int .i64 (p : Int)), .raw .nilIface] = [.pointer (some ⟨g, 0, none⟩), .int .i64 (p : Int), .nilIface] := by
      simp [denL, SV.den, e31, Addr.add]
    rw [c1, c2]
    have hs : (strsC (List.replicate p (zrs 1024))).l.length = p := by simp [strsC]
    rw [hs]
    have hs1 : (strsC (List.replicate p (zrs 1024))).s = 1 := rfl
    rw [hs1]
    simp only [emp_sep]
    ac_rfl
  · refine ⟨⟨?_, ?_⟩, ?_, ⟨?_, ?_⟩, trivial, trivial⟩
    · simp only [okL, SV.ok, and_true, true_and]
      refine ⟨⟨g, e31⟩, ⟨gl, e32⟩, ?_⟩
      rw [e33]; exact hro
    · intro v hv
      simp only [denL, SV.den, List.mem_cons, List.not_mem_nil, or_false] at hv
      rcases hv with rfl | rfl | rfl | rfl | rfl <;> rfl
    · intro x hx
      exact ⟨rfl, fun y hy => by simp only [strsC, List.mem_singleton] at hy; subst hy; rfl⟩
    · simp only [okL, SV.ok, and_true]; exact ⟨g, e31⟩
    · intro v hv
      simp only [denL, SV.den, List.mem_cons, List.not_mem_nil, or_false] at hv
      rcases hv with rfl | rfl | rfl <;> rfl
theorem vals_bytes (l : List UInt8) : Cont.vals (Eng.bytes l) = byts l := flatMap_single l
theorem sl0 (ρ : Places) (n len cap : Nat) : (SV.sl n 1 0 len cap).den ρ = .slice (ρ n) len cap := by
  simp only [SV.den]
  congr 1
  cases ρ n <;> simp [Addr.add]
theorem Load_con (P : Hp) (l : List UInt8) (cap : Nat) (hn : ∃ k, l.length = k * 512 ∧ 1 ≤ k ∧ k ≤ 4096) :
    Con Tryz.prog [0] 40 [.sl 0 1 0 l.length cap] P [.row 0 5 cap (Eng.bytes l)] fun x P' H' => x = .tup [.ptr 20 0, .raw (.int .i64 0)] ∧ P' = P ∧ H' = [.row 0 5 cap (Eng.bytes l), dC 20 (Dev.fresh l)] := by
  refine ⟨Tryz.call40, fun ρ wb w R hM _ => ?_⟩
  have hm : Mem wb w (own P * (Le.row 5 1 (ρ 0) l.length cap (Cont.vals (Eng.bytes l)) * emp * R)) := hM.mem
  rw [vals_bytes, sep_emp] at hm
  have hs := hm.p1.row_sl
  simp only [denL, sl0]
  refine (Load_any wb w _ hm (ρ 0) l.length cap l hs hn).mono ?_
  rintro e w' ⟨g, rfl, hm'⟩
  have e0 : pl [(20, some ⟨g, 0, none⟩)] ρ 0 = ρ 0 := rfl
  have e20 : pl [(20, some ⟨g, 0, none⟩)] ρ 20 = some ⟨g, 0, none⟩ := rfl
  refine ⟨pl [(20, some ⟨g, 0, none⟩)] ρ, _, P, _, fun n hn => ?_, rfl, ?_, ⟨?_, ?_⟩, Hp.le_refl P, rfl, rfl, rfl⟩
  · simp only [hasN] at hn
    split at hn
    · rename_i hb
      rw [← Nat.eq_of_beq_eq_true hb]; rfl
    · cases hn
  · simp only [SV.ok, okL, and_true]; exact ⟨g, e20⟩
  · refine hm'.eq ?_
    simp only [star, dev_at e20, sep_emp]
    show _ = own P * (Le.row 5 1 (pl [(20, some ⟨g, 0, none⟩)] ρ 0) l.length cap (Cont.vals (Eng.bytes l)) * devAt T8 g (Dev.fresh l) * R)
    rw [e0, vals_bytes]
    ac_rfl
  · exact ⟨fun x hx => ⟨rfl, fun y hy => by simp only [List.mem_singleton] at hy; subst hy; rfl⟩, trivial, trivial⟩
theorem Open_con (P : Hp) (D D' : Dev) (p : Nat) (b : Bool) (hpl : D.pend.length ≤ 700000000) (h : ioOpen D = (.ok (p, b), D')) :
    Con Tryz.prog [0] 18 [.ptr 0 0] P [dC 0 D] fun x P' H' => x = .tup [.ptr 21 0, .raw (.bool b), .raw .nilIface] ∧ P' = P ∧ H' = [.blk 21 86 [.ptr 0 0, .raw (.int .i64 (p : Int)), .raw .nilIface], dC 0 D'] := by
  refine ⟨Tryz.call18, fun ρ wb w R hM _ => ?_⟩
  have hm : Mem wb w (Ck.den ρ (dC 0 D) * (own P * R)) := hM.mem.eq (by simp only [star, sep_emp]; ac_rfl)
  obtain ⟨g, hg⟩ := dev_has hm
  rw [dev_at hg] at hm
  simp only [denL, SV.den, hg, Option.map_some, Addr.add0, Nat.zero_add]
  have hcall := Open_any wb w _ g D hm hpl
  rw [h] at hcall
  refine hcall.mono ?_
  rintro e w' ⟨gl, rfl, hm'⟩
  have e0 : pl [(21, some ⟨gl, 0, none⟩)] ρ 0 = some ⟨g, 0, none⟩ := hg
  have e21 : pl [(21, some ⟨gl, 0, none⟩)] ρ 21 = some ⟨gl, 0, none⟩ := rfl
  refine ⟨pl [(21, some ⟨gl, 0, none⟩)] ρ, _, P, _, fun n hn => ?_, rfl, ?_, ⟨?_, ?_⟩, Hp.le_refl P, rfl, rfl, rfl⟩
  · simp only [hasN] at hn
    split at hn
    · rename_i hb
      rw [← Nat.eq_of_beq_eq_true hb]; rfl
    · cases hn
  · simp only [SV.ok, okL, and_true]; exact ⟨gl, e21⟩
  · refine hm'.eq ?_
    simp only [star, blk_at e21, dev_at e0, sep_emp, logB, denL, SV.den, e0, Option.map_some, Addr.add0, Nat.zero_add]
    ac_rfl
  · refine ⟨⟨?_, ?_⟩, trivial, trivial⟩
    · simp only [okL, SV.ok, and_true]; exact ⟨g, e0⟩
    · intro v hv
      simp only [denL, SV.den, List.mem_cons, List.not_mem_nil, or_false] at hv
      rcases hv with rfl | rfl | rfl <;> rfl
theorem Image_con (P : Hp) (D : Dev) : Con Tryz.prog [0] 22 [.ptr 0 0] P [dC 0 D] fun x P' H' => ∃ cap, x = .sl 22 1 0 D.img.length cap ∧ P' = P ∧ H' = [.row 22 5 cap (Eng.bytes D.img), dC 0 D] := by
  refine ⟨Tryz.call22, fun ρ wb w R hM _ => ?_⟩
  have hm : Mem wb w (Ck.den ρ (dC 0 D) * (own P * R)) := hM.mem.eq (by simp only [star, sep_emp]; ac_rfl)
  obtain ⟨g, hg⟩ := dev_has hm
  rw [dev_at hg] at hm
  simp only [denL, SV.den, hg, Option.map_some, Addr.add0, Nat.zero_add]
  refine (Image_dev wb w _ g D hm).mono ?_
  rintro e w' ⟨v, rfl, hm'⟩
  replace hm' := Mem.rowB.1 hm'
  obtain ⟨a, cap, rfl, hm'⟩ := hm'
  have e0 : pl [(22, a)] ρ 0 = some ⟨g, 0, none⟩ := hg
  have e22 : pl [(22, a)] ρ 22 = a := rfl
  refine ⟨pl [(22, a)] ρ, .sl 22 1 0 D.img.length cap, P, _, fun n hn => ?_, by rw [sl0, e22], ?_, ⟨?_, ?_⟩, Hp.le_refl P, cap, rfl, rfl, rfl⟩
  · simp only [hasN] at hn
    split at hn
    · rename_i hb
      rw [← Nat.eq_of_beq_eq_true hb]; rfl
    · cases hn
  · simp only [SV.ok, e22]; exact row_ok hm'
  · refine hm'.eq ?_
    simp only [star, dev_at e0, sep_emp]
    show _ = own P * (Le.row 5 1 (pl [(22, a)] ρ 22) D.img.length cap (Cont.vals (Eng.bytes D.img)) * devAt T8 g D * R)
    rw [e22, vals_bytes]
    ac_rfl
  · exact ⟨fun x hx => ⟨rfl, fun y hy => by simp only [List.mem_singleton] at hy; subst hy; rfl⟩, trivial, trivial⟩
end Go.Proofs.YtpaebopmppbjbaaGreatDoor
