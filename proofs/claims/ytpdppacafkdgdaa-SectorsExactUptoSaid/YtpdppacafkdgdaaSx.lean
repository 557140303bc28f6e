/- The disk (package sectors), as the engine's calls take it. -/
import Derived.Test.YtpdppacafkdgdaaEv
import Derived.Test.YtpdppacafkdgdaaTab
import Derived.Test.YtpdppacafkdgdaaFrz
import Derived.Test.YtpdppacafkdgdaaRen
import Derived.Test.YtpdppacafkdgdaaSec1M
set_option linter.unusedVariables false
set_option linter.unusedSimpArgs false
namespace Go.Eng
open Go Go.RowKit Go.Le
theorem ex_at {A : Nat → HP} (g : Nat) : (Le.ex fun g' : Nat => pur ((some ⟨g, 0, none⟩ : Option Addr) = some ⟨g', 0, none⟩) * A g') = A g := by
  funext h
  refine propext ⟨?_, fun h1 => ⟨g, _, h, fun _ => .inl rfl, rfl, ⟨rfl, rfl⟩, h1⟩⟩
  rintro ⟨g', a, b, h1, rfl, ⟨h2, rfl⟩, h4⟩
  simp only [Option.some.injEq, Addr.mk.injEq] at h2
  obtain ⟨rfl, -⟩ := h2
  exact h4
/-- a device -/
def dvA (t : Ty) (D : Dev) (l : List (Option Addr)) : HP := ex fun g : Nat => pur (l.headD none = some ⟨g, 0, none⟩) * devAt t g D
def devC (t : Ty) (n : Nat) (D : Dev) : Ck := .ab 1 [n] ⟨dvA t D, fun _ => True⟩
theorem dev_at {ρ : Places} {n g : Nat} (h : ρ n = some ⟨g, 0, none⟩) (t : Ty) (D : Dev) : Ck.den ρ (devC t n D) = devAt t g D := by
  simp only [devC, Ck.den, dvA, List.map_cons, List.headD_cons]; rw [h]; exact ex_at g
theorem dev_has {ρ : Places} {wb w : World} {n : Nat} {t : Ty} {D : Dev} {A : HP} (h : Mem wb w (Ck.den ρ (devC t n D) * A)) : ∃ g, ρ n = some ⟨g, 0, none⟩ := by
  simp only [devC, Ck.den, dvA, List.map_cons, List.headD_cons] at h
  rw [Mem.exl] at h
  obtain ⟨g, h⟩ := h
  rw [sep_assoc, Mem.pur] at h
  exact ⟨g, h.1⟩
theorem row_at (ρ : Places) (n : Nat) (e : TypeId) (cap : Nat) (c : Cont) : Ck.den ρ (.row n e cap c) = Le.row e c.s (ρ n) c.l.length cap c.vals := rfl
/-- places, told one by one -/
def pl (l : List (Nat × Option Addr)) (ρ : Places) : Places := fun m => match l.find? (·.1 == m) with | some x => x.2 | none => ρ m
end Go.Eng
namespace Go.Proofs.Ytpdppacafkdgdaa
open Go Go.RowKit Go.Le Go.Eng
abbrev dC (n : Nat) (D : Dev) : Ck := devC T8 n D
theorem vals_bytes (l : List UInt8) : Cont.vals (Eng.bytes l) = byts l := flatMap_single l
theorem sl0 (ρ : Places) (n len cap : Nat) : (SV.sl n 1 0 len cap).den ρ = .slice (ρ n) len cap := by
  simp only [SV.den]
  congr 1
  cases ρ n <;> simp [Addr.add]
theorem Load_con (P : Hp) (l : List UInt8) (cap : Nat) (hn : ∃ k, l.length = k * 512 ∧ 1 ≤ k ∧ k ≤ 4096) :
    Con Try.prog [0] 30 [.sl 0 1 0 l.length cap] P [.row 0 5 cap (Eng.bytes l)] fun x P' H' => x = .tup [.ptr 20 0, .raw (.int .i64 0)] ∧ P' = P ∧ H' = [.row 0 5 cap (Eng.bytes l), dC 20 (Dev.fresh l)] := by
  refine ⟨Try.call30, fun ρ wb w R hM _ => ?_⟩
  have hm : Mem wb w (own P * (Le.row 5 1 (ρ 0) l.length cap (Cont.vals (Eng.bytes l)) * emp * R)) := hM.mem
  rw [vals_bytes, sep_emp] at hm
  have hs := hm.p1.row_sl
  simp only [denL, sl0]
  refine (Load_any wb w _ hm (ρ 0) l.length cap l hs hn).mono ?_
  rintro e w' ⟨g, rfl, hm'⟩
  have e0 : pl [(20, some ⟨g, 0, none⟩)] ρ 0 = ρ 0 := rfl
  have e20 : pl [(20, some ⟨g, 0, none⟩)] ρ 20 = some ⟨g, 0, none⟩ := rfl
  refine ⟨pl [(20, some ⟨g, 0, none⟩)] ρ, _, P, _, fun n hn => ?_, rfl, ?_, ⟨?_, ?_⟩, Hp.le_refl P, rfl, rfl, rfl⟩
  · simp only [hasN] at hn
    split at hn
    · rename_i hb
      rw [← Nat.eq_of_beq_eq_true hb]; rfl
    · cases hn
  · simp only [SV.ok, okL, and_true]; exact ⟨g, e20⟩
  · refine hm'.eq ?_
    simp only [star, dev_at e20, sep_emp]
    show _ = own P * (Le.row 5 1 (pl [(20, some ⟨g, 0, none⟩)] ρ 0) l.length cap (Cont.vals (Eng.bytes l)) * devAt T8 g (Dev.fresh l) * R)
    rw [e0, vals_bytes]
    ac_rfl
  · exact ⟨fun x hx => ⟨rfl, fun y hy => by simp only [List.mem_singleton] at hy; subst hy; rfl⟩, trivial, trivial⟩
theorem Down_dev (wb w : World) (R : HP) (g : Nat) (D : Dev) (h : Mem wb w (devAt T8 g D * R)) :
    Calls Try.prog 25 #[.pointer (some ⟨g, 0, none⟩)] w fun e w' => e = .returned (.bool D.down) ∧ w = w' := by
  obtain ⟨hok, ka, kc, h1⟩ := Mem.devAt.1 h
  exact Down_any wb w _ g D ka _ kc h1
/-- a call of a disk that answers a plain value -/
theorem dev_con {f : FuncId} (he : Enters Try.prog f) (P : Hp) (D D' : Dev) (v : Value) (rest : List SV) (rv : List Value) (hr : ∀ ρ, denL ρ rest = rv)
    (h : ∀ wb w R g, Mem wb w (devAt T8 g D * R) → Calls Try.prog f (.pointer (some ⟨g, 0, none⟩) :: rv).toArray w fun e w' => e = .returned v ∧ Mem wb w' (devAt T8 g D' * R)) :
    Con Try.prog [0] f (.ptr 0 0 :: rest) P [dC 0 D] fun x P' H' => x = .raw v ∧ P' = P ∧ H' = [dC 0 D'] := by
  refine ⟨he, fun ρ wb w R hM _ => ?_⟩
  have hm : Mem wb w (Ck.den ρ (dC 0 D) * (own P * R)) := hM.mem.eq (by simp only [star, sep_emp]; ac_rfl)
  obtain ⟨g, hg⟩ := dev_has hm
  rw [dev_at hg] at hm
  simp only [denL, SV.den, hg, Option.map_some, Addr.add0, Nat.zero_add, hr]
  refine (h wb w _ g hm).mono ?_
  rintro e w' ⟨rfl, hm'⟩
  refine ⟨ρ, _, P, [dC 0 D'], fun _ _ => rfl, rfl, by simp only [SV.ok], ⟨?_, trivial, trivial⟩, Hp.le_refl P, rfl, rfl, rfl⟩
  refine hm'.eq ?_
  simp only [star, dev_at hg, sep_emp]
  ac_rfl
theorem Down_con (P : Hp) (D : Dev) : Con Try.prog [0] 25 [.ptr 0 0] P [dC 0 D] fun x P' H' => x = .raw (.bool D.down) ∧ P' = P ∧ H' = [dC 0 D] :=
  dev_con Try.call25 P D D _ [] [] (fun _ => rfl) fun wb w R g h => (Down_dev wb w R g D h).mono fun e w' ⟨h1, h2⟩ => ⟨h1, h2 ▸ h⟩
theorem Calls_con (P : Hp) (D : Dev) : Con Try.prog [0] 53 [.ptr 0 0] P [dC 0 D] fun x P' H' => x = .raw (.int .i64 D.calls) ∧ P' = P ∧ H' = [dC 0 D] :=
  dev_con Try.call53 P D D _ [] [] (fun _ => rfl) fun wb w R g h => by
    obtain ⟨hok, ka, kc, h1⟩ := Mem.devAt.1 h
    exact (Calls_any wb w _ g D ka _ kc h1).mono fun e w' ⟨h1, h2⟩ => ⟨h1, h2 ▸ h⟩
theorem Up_con (P : Hp) (D : Dev) : Con Try.prog [0] 28 [.ptr 0 0] P [dC 0 D] fun x P' H' => x = .raw (.int .i64 0) ∧ P' = P ∧ H' = [dC 0 D.up] :=
  dev_con Try.call28 P D D.up _ [] [] (fun _ => rfl) fun wb w R g h => by
    obtain ⟨hok, ka, kc, h1⟩ := Mem.devAt.1 h
    exact (Up_any wb w _ g D ka _ kc h1).mono fun e w' ⟨h1, h2⟩ => ⟨h1, Mem.devAt.2 ⟨Dev.up_ok hok, ka, kc, h2⟩⟩
/-- the numbers of a loss, as the engine reads them -/
def kEnc (n : Nat) : List Cell := [.v (.int .u64 (n : Int))]
def keepC (l : List Nat) : Cont := ⟨1, id, l.map kEnc⟩
theorem keep_vals (l : List Nat) : Cont.vals (keepC l) = u64s l := by
  induction l with
  | nil => rfl
  | cons x r ih => show Value.int .u64 (x : Int) :: Cont.vals (keepC r) = Value.int .u64 (x : Int) :: u64s r; rw [ih]
theorem Flush_con (P : Hp) (D : Dev) (hpl : D.pend.length ≤ 1000000000) : Con Try.prog [0] 29 [.ptr 0 0] P [dC 0 D] fun x P' H' => x = .raw (.int .i64 D.flush.2) ∧ P' = P ∧ H' = [dC 0 D.flush.1] :=
  dev_con Try.call29 P D D.flush.1 _ [] [] (fun _ => rfl) fun wb w R g h => Flush_any wb w R g D h hpl
theorem Sectors_con (P : Hp) (D : Dev) : Con Try.prog [0] 50 [.ptr 0 0] P [dC 0 D] fun x P' H' => x = .raw (.int .i64 (D.n : Int)) ∧ P' = P ∧ H' = [dC 0 D] :=
  dev_con Try.call50 P D D _ [] [] (fun _ => rfl) fun wb w R g h => by
    obtain ⟨hok, ka, kc, h1⟩ := Mem.devAt.1 h
    exact (Sectors_any wb w _ g D ka _ kc h1 hok).mono fun e w' ⟨h1, h2⟩ => ⟨h1, h2 ▸ h⟩
end Go.Proofs.Ytpdppacafkdgdaa
