import Derived.Test.YtpaebopmppbjbaaGreatDoorWc
import Derived.Test.YtpaebopmppbjbaaGreatDoorFrz
import Derived.Test.YtpaebopmppbjbaaGreatDoorSrt
import Derived.Test.YtpaebopmppbjbaaGreatDoorErrM
import Derived.Test.YtpaebopmppbjbaaGreatDoorFallM
import Derived.Test.YtpaebopmppbjbaaGreatDoorRen
/- The contracts of package wal and of the disk that the engine's calls take: Commit, Read, Open, of a disk that may give up. -/
set_option linter.unusedVariables false
set_option linter.unusedSimpArgs false
namespace Go.Proofs.YtpaebopmppbjbaaGreatDoor
open Go Go.RowKit Go.Le Go.Eng
/-- a call of a disk that answers a plain value -/
theorem dev_con {f : FuncId} (he : Enters Tryz.prog f) (P : Hp) (D D' : Dev) (v : Value) (rest : List SV) (rv : List Value) (hr : ∀ ρ, denL ρ rest = rv)
    (h : ∀ wb w R g, Mem wb w (devAt T8 g D * R) → Calls Tryz.prog f (.pointer (some ⟨g, 0, none⟩) :: rv).toArray w fun e w' => e = .returned v ∧ Mem wb w' (devAt T8 g D' * R)) :
    Con Tryz.prog [0] f (.ptr 0 0 :: rest) P [dC 0 D] fun x P' H' => x = .raw v ∧ P' = P ∧ H' = [dC 0 D'] := by
  refine ⟨he, fun ρ wb w R hM _ => ?_⟩
  have hm : Mem wb w (Ck.den ρ (dC 0 D) * (own P * R)) := hM.mem.eq (by simp only [star, sep_emp]; ac_rfl)
  obtain ⟨g, hg⟩ := dev_has hm
  rw [dev_at hg] at hm
  simp only [denL, SV.den, hg, Option.map_some, Addr.add0, Nat.zero_add, hr]
  refine (h wb w _ g hm).mono ?_
  rintro e w' ⟨rfl, hm'⟩
  refine ⟨ρ, _, P, [dC 0 D'], fun _ _ => rfl, rfl, by simp only [SV.ok], ⟨?_, trivial, trivial⟩, Hp.le_refl P, rfl, rfl, rfl⟩
  refine hm'.eq ?_
  simp only [star, dev_at hg, sep_emp]
  ac_rfl
theorem Down_con (P : Hp) (D : Dev) : Con Tryz.prog [0] 24 [.ptr 0 0] P [dC 0 D] fun x P' H' => x = .raw (.bool D.down) ∧ P' = P ∧ H' = [dC 0 D] :=
  dev_con Tryz.call24 P D D _ [] [] (fun _ => rfl) fun wb w R g h => (Down_dev wb w R g D h).mono fun e w' ⟨h1, h2⟩ => ⟨h1, h2 ▸ h⟩
theorem Calls_con (P : Hp) (D : Dev) : Con Tryz.prog [0] 9 [.ptr 0 0] P [dC 0 D] fun x P' H' => x = .raw (.int .i64 D.calls) ∧ P' = P ∧ H' = [dC 0 D] :=
  dev_con Tryz.call9 P D D _ [] [] (fun _ => rfl) fun wb w R g h => by
    obtain ⟨hok, ka, kc, h1⟩ := Mem.devAt.1 h
    exact (Calls_any wb w _ g D ka _ kc h1).mono fun e w' ⟨h1, h2⟩ => ⟨h1, h2 ▸ h⟩
theorem Up_con (P : Hp) (D : Dev) : Con Tryz.prog [0] 52 [.ptr 0 0] P [dC 0 D] fun x P' H' => x = .raw (.int .i64 0) ∧ P' = P ∧ H' = [dC 0 D.up] :=
  dev_con Tryz.call52 P D D.up _ [] [] (fun _ => rfl) fun wb w R g h => by
    obtain ⟨hok, ka, kc, h1⟩ := Mem.devAt.1 h
    exact (Up_any wb w _ g D ka _ kc h1).mono fun e w' ⟨h1, h2⟩ => ⟨h1, Mem.devAt.2 ⟨Dev.up_ok hok, ka, kc, h2⟩⟩
/-- no loss -/
def loss0 : Loss := ⟨[], 0, 0⟩
theorem Arm0_con (P : Hp) (D : Dev) (step : Int) (s1 : -9223372036854775808 ≤ step) (s2 : step ≤ 9223372036854775807) :
    Con Tryz.prog [0] 23 [.ptr 0 0, .raw (.int .i64 step), .agg [.raw (.slice none 0 0), .raw (.int .i64 0), .raw (.int .i64 0)]] P [dC 0 D] fun x P' H' => x = .raw (.int .i64 (D.arm step loss0).2) ∧ P' = P ∧ H' = [dC 0 (D.arm step loss0).1] :=
  dev_con Tryz.call23 P D (D.arm step loss0).1 _ [.raw (.int .i64 step), .agg [.raw (.slice none 0 0), .raw (.int .i64 0), .raw (.int .i64 0)]] _ (fun _ => rfl) fun wb w R g h =>
    Arm_any wb w R g D h step s1 s2 loss0 none 0 (fun w' _ => Sl.nil' w') (by refine ⟨?_, ?_, ?_⟩ <;> simp [loss0]) (by simp [loss0])
/-- the numbers of a loss, as the engine reads them -/
def kEnc (n : Nat) : List Cell := [.v (.int .u64 (n : Int))]
def keepC (l : List Nat) : Cont := ⟨1, id, l.map kEnc⟩
theorem keep_vals (l : List Nat) : Cont.vals (keepC l) = u64s l := by
  induction l with
  | nil => rfl
  | cons x r ih => show Value.int .u64 (x : Int) :: Cont.vals (keepC r) = Value.int .u64 (x : Int) :: u64s r; rw [ih]
theorem Arm_con (P : Hp) (D : Dev) (step : Int) (s1 : -9223372036854775808 ≤ step) (s2 : step ≤ 9223372036854775807) (l : Loss) (hl : l.ok) (hkl : l.keep.length ≤ 1000000000) (la : Option Addr) (lc : Nat) :
    Con Tryz.prog [0] 23 [.ptr 0 0, .raw (.int .i64 step), .agg [.rs la lc (keepC l.keep), .raw (.int .i64 l.torn), .raw (.int .i64 l.off)]] P [dC 0 D] fun x P' H' => x = .raw (.int .i64 (D.arm step l).2) ∧ P' = P ∧ H' = [dC 0 (D.arm step l).1] := by
  refine ⟨Tryz.call23, fun ρ wb w R hM ho => ?_⟩
  have hm : Mem wb w (Ck.den ρ (dC 0 D) * (own P * R)) := hM.mem.eq (by simp only [star, sep_emp]; ac_rfl)
  obtain ⟨g, hg⟩ := dev_has hm
  rw [dev_at hg] at hm
  simp only [okL, SV.ok, and_true, true_and] at ho
  have hrd := ho.2.1
  have hkl1 : (keepC l.keep).l.length = l.keep.length := List.length_map ..
  have hks : (keepC l.keep).s = 1 := rfl
  rw [hkl1, hks, keep_vals] at hrd
  simp only [denL, SV.den, hg, Option.map_some, Addr.add0, Nat.zero_add, hkl1]
  refine (Arm_any wb w _ g D hm step s1 s2 l la lc (fun w' h' => Rd.sl h' hrd) hl hkl).mono ?_
  rintro e w' ⟨rfl, hm'⟩
  refine ⟨ρ, _, P, [dC 0 (D.arm step l).1], fun _ _ => rfl, rfl, by simp only [SV.ok], ⟨?_, trivial, trivial⟩, Hp.le_refl P, rfl, rfl, rfl⟩
  refine hm'.eq ?_
  simp only [star, dev_at hg, sep_emp]
  ac_rfl
/-- a log -/
abbrev lgC (n d : Nat) (p : Nat) (er : SV) : Ck := .blk n 86 [.ptr d 0, .raw (.int .i64 (p : Int)), er]
/-- a fault -/
abbrev ftC (n : Nat) (s : ByteArray) (at' c : Int) : Ck := .blk n 55 [.raw (.string s), .raw (.int .i64 at'), .ifc 49 (.raw (.int .i64 c))]
abbrev ftV (n : Nat) : SV := .ifc 53 (.ptr n 0)
theorem blk_has {ρ : Places} {wb w : World} {n : Nat} {e : TypeId} {cs : List SV} {A : HP} (h : Mem wb w (Ck.den ρ (.blk n e cs) * A)) : ∃ g, ρ n = some ⟨g, 0, none⟩ := by
  simp only [Ck.den] at h
  rw [Mem.exl] at h
  obtain ⟨g, h⟩ := h
  rw [sep_assoc, Mem.pur] at h
  exact ⟨g, h.1⟩
theorem log_split {ρ : Places} {wb w : World} {R : HP} {P : Hp} {l d p : Nat} {er : SV} {D : Dev} {X : List Ck} (hM : Models ρ wb w R P (lgC l d p er :: dC d D :: X)) :
    ∃ gl g, ρ l = some ⟨gl, 0, none⟩ ∧ ρ d = some ⟨g, 0, none⟩ ∧ Mem wb w (logB g p (er.den ρ) gl * (devAt T8 g D * (own P * (star ρ X * R)))) := by
  have hm : Mem wb w (Ck.den ρ (lgC l d p er) * (Ck.den ρ (dC d D) * (own P * (star ρ X * R)))) := hM.mem.eq (by simp only [star]; ac_rfl)
  obtain ⟨gl, hgl⟩ := blk_has hm
  obtain ⟨g, hg⟩ := dev_has hm.p1
  rw [blk_at hgl, dev_at hg] at hm
  refine ⟨gl, g, hgl, hg, hm.eq ?_⟩
  simp only [denL, SV.den, hg, Option.map_some, Addr.add0, Nat.zero_add, logB]
theorem log_join {ρ : Places} {wb w : World} {R : HP} {P : Hp} {l d p : Nat} {er : SV} {D : Dev} {X : List Ck} {gl g : Nat} (hgl : ρ l = some ⟨gl, 0, none⟩) (hg : ρ d = some ⟨g, 0, none⟩)
    (hm : Mem wb w (logB g p (er.den ρ) gl * (devAt T8 g D * (own P * (star ρ X * R))))) (he : er.ok ρ wb P) (he1 : (er.den ρ).oneCell' = true) (hX : okC ρ wb P X) : Models ρ wb w R P (lgC l d p er :: dC d D :: X) := by
  refine ⟨hm.eq ?_, ⟨?_, ?_⟩, trivial, hX⟩
  · simp only [star, blk_at hgl, dev_at hg, denL, SV.den, hg, Option.map_some, Addr.add0, Nat.zero_add, logB]
    ac_rfl
  · simp only [okL, SV.ok, and_true, true_and]; exact ⟨⟨g, hg⟩, he⟩
  · intro v hv
    simp only [denL, SV.den, List.mem_cons, List.not_mem_nil, or_false] at hv
    rcases hv with rfl | rfl | rfl
    · rfl
    · rfl
    · exact he1
theorem Read_con (P : Hp) (p n : Nat) (D D' : Dev) (pg : List UInt8) (hpl : D.pend.length ≤ 900000000) (hn : n < p) (hp : p ≤ 1000) (hio : ioPage p n D = (.ok pg, D')) :
    Con Tryz.prog [0, 1] 21 [.ptr 1 0, .raw (.int .i64 (n : Int))] P [lgC 1 0 p (.raw .nilIface), dC 0 D] fun x P' H' => x = .tup [.sl 22 1 0 pg.length pg.length, .raw .nilIface] ∧ P' = P ∧ H' = [lgC 1 0 p (.raw .nilIface), dC 0 D, .row 22 5 pg.length (Eng.bytes pg)] := by
  refine ⟨Tryz.call21, fun ρ wb w R hM _ => ?_⟩
  obtain ⟨gl, g, hgl, hg, hm⟩ := log_split hM
  simp only [denL, SV.den, hgl, Option.map_some, Addr.add0, Nat.zero_add]
  simp only [SV.den] at hm
  refine (Read_ok wb w _ g gl p n D hm hpl hn hp pg D' hio).mono ?_
  rintro e w' ⟨a, rfl, rfl, -, hm'⟩
  have hro := row_ok hm'
  refine ⟨pl [(22, a)] ρ, _, P, _, fun n hn => ?_, ?_, ?_, log_join (er := .raw .nilIface) (gl := gl) (g := g) (l := 1) (d := 0) (X := [.row 22 5 pg.length (Eng.bytes pg)]) hgl hg ?_ (by simp only [SV.ok]) rfl ⟨?_, trivial⟩, Hp.le_refl P, rfl, rfl, rfl⟩
  · simp only [hasN] at hn
    split at hn
    · rename_i hb; rw [← Nat.eq_of_beq_eq_true hb]; rfl
    · split at hn
      · rename_i hb; rw [← Nat.eq_of_beq_eq_true hb]; rfl
      · cases hn
  · simp only [SV.den, denL]
    have : (pl [(22, a)] ρ 22) = a := rfl
    rw [this]
    cases a <;> simp [Addr.add]
  · simp only [SV.ok, okL, and_true]; exact hro
  · refine hm'.eq ?_
    simp only [star, sep_emp, emp_sep]
    show _ = logB g p .nilIface gl * (devAt T8 g D' * (own P * (Le.row 5 1 (pl [(22, a)] ρ 22) pg.length pg.length (Cont.vals (Eng.bytes pg)) * R)))
    have : (pl [(22, a)] ρ 22) = a := rfl
    rw [this, vals_bytes]
    ac_rfl
  · exact fun x hx => ⟨rfl, fun y hy => by simp only [List.mem_singleton] at hy; subst hy; rfl⟩
/-- pages to be written, as the engine reads them: number, place, room, bytes -/
abbrev Pj := Int × Option Addr × Nat × List UInt8
def jEnc (z : Pj) : List Cell := [.v (.int .i64 z.1), .bs z.2.1 z.2.2.1 z.2.2.2]
def pwJ (l : List Pj) : Cont := ⟨2, jEnc, l⟩
def toJ (z : Pz) : Pj := ((z.1.1 : Int), z.2.1, z.2.2, z.1.2)
abbrev pwC (zs : List Pz) : Cont := pwJ (zs.map toJ)
theorem pw_len (zs : List Pz) {n : Nat} (h : zs.length = n) : (pwC zs).l.length = n := by show (zs.map toJ).length = n; rw [List.length_map, h]
theorem pw_vals (zs : List Pz) : Cont.vals (pwC zs) = pzCells zs := by
  show List.flatMap (fun x : Pj => (jEnc x).map Cell.den) (zs.map toJ) = _
  rw [List.flatMap_map]
  rfl
/-- what Commit writes, in its order -/
noncomputable def sorted (zs : List Pz) (h : ∀ z ∈ zs, z.1.1 < 1000) : List Pz := (sortSp (zs.attach.map fun z => ⟨z.1, h z.1 z.2⟩)).map (·.1)
theorem sorted_perm (zs : List Pz) (h : ∀ z ∈ zs, z.1.1 < 1000) : (sorted zs h).Perm zs := by
  have h1 := (sortSp_perm (zs.attach.map fun z => (⟨z.1, h z.1 z.2⟩ : Sp))).map (·.1)
  have h2 : (zs.attach.map fun z => (⟨z.1, h z.1 z.2⟩ : Sp)).map (·.1) = zs := by
    rw [List.map_map]
    exact List.attach_map_subtype_val zs
  rw [h2] at h1
  exact h1
/-- COMMIT: it answers what the disk has answered -/
theorem commit_call (P : Hp) (p n cap : Nat) (D : Dev) (zs : List Pz) (hpl : D.pend.length ≤ 800000000) (hp : p ≤ 250) (hn : zs.length = n) (hn2 : n ≤ 250) (hn0 : 0 < n) (hask : askedFrom p 0 [] (zs.map fun z => ((z.1.1 : Int), z.1.2.length)) = (0, 0)) (hz : ∀ z ∈ zs, z.1.1 < p ∧ z.1.2.length = 1024)
    (h1000 : ∀ z ∈ zs, z.1.1 < 1000) (ρ : Places) (wb w : World) (R : HP) (gl g : Nat) (hgl : ρ 1 = some ⟨gl, 0, none⟩) (hg : ρ 0 = some ⟨g, 0, none⟩) (hoz : (pwC zs).ok wb P)
    (hm : Mem wb w (logB g p .nilIface gl * (devAt T8 g D * (own P * (Le.row 52 2 (ρ 2) n cap (pzCells zs) * R))))) :
    ∃ gz, ρ 2 = some ⟨gz, 0, none⟩ ∧ Calls Tryz.prog 10 #[.pointer (some ⟨gl, 0, none⟩), .slice (ρ 2) n cap] w (CommitSays wb g p gl (own P * (Le.row 52 2 (ρ 2) n cap (pzCells zs) * R)) (ioCommit p ((sorted zs h1000).map (·.1)) D)) := by
  obtain ⟨gz, rest, hgz, -, -, -, -, -⟩ := hm.p3.row_at hn0
  refine ⟨gz, hgz, ?_⟩
  have hsl : (sorted zs h1000).length = n := by rw [(sorted_perm zs h1000).length_eq, hn]
  rw [hgz] at hm ⊢
  refine Commit_any wb w _ g gl p n gz cap zs (sorted zs h1000) D hm hpl hp hn hn2 hn0 hask hz (fun w' h' => ⟨h'.p1.pgs, fun z hz' => ?_⟩) hsl (fun z h => (sorted_perm zs h1000).mem_iff.1 h) (fun w1 R' b2 c2 h1 => ?_)
  · have h2 : Eng.Cell.ok wb P (.bs z.2.1 z.2.2 z.1.2) := (hoz (toJ z) (List.mem_map_of_mem hz')).2 (.bs z.2.1 z.2.2 z.1.2) (by show _ ∈ jEnc (toJ z); simp [jEnc, toJ])
    have h2 : Rd wb P z.2.1 z.1.2.length z.2.2 1 (byts z.1.2) := by simpa only [Eng.Cell.ok] using h2
    have h3 := Rd.sl h' h2
    rw [(hz z hz').2] at h3
    exact h3
  · have hl : (zs.attach.map fun z => (⟨z.1, h1000 z.1 z.2⟩ : Sp)).length = n := by rw [List.length_map, List.length_attach, hn]
    have hv : (zs.attach.map fun z => (⟨z.1, h1000 z.1 z.2⟩ : Sp)).map (·.1) = zs := by rw [List.map_map]; exact List.attach_map_subtype_val zs
    have := sort_any wb w1 R' b2 c2 (zs.attach.map fun z => (⟨z.1, h1000 z.1 z.2⟩ : Sp)) (by omega) (by omega) (by rw [hl, hv]; exact h1)
    rw [hl] at this
    exact this
theorem Commit_con (P : Hp) (p n cap : Nat) (D D' : Dev) (zs : List Pz) (hpl : D.pend.length ≤ 800000000) (hp : p ≤ 250) (hn : zs.length = n) (hn2 : n ≤ 250) (hn0 : 0 < n) (hask : askedFrom p 0 [] (zs.map fun z => ((z.1.1 : Int), z.1.2.length)) = (0, 0)) (hz : ∀ z ∈ zs, z.1.1 < p ∧ z.1.2.length = 1024)
    (h1000 : ∀ z ∈ zs, z.1.1 < 1000) (hio : ioCommit p ((sorted zs h1000).map (·.1)) D = (.ok (), D')) :
    Con Tryz.prog [0, 1, 2] 10 [.ptr 1 0, .sl 2 2 0 n cap] P [lgC 1 0 p (.raw .nilIface), dC 0 D, .row 2 52 cap (pwC zs)] fun x P' H' => x = .raw .nilIface ∧ P' = P ∧ H' = [lgC 1 0 p (.raw .nilIface), dC 0 D', .row 2 52 cap (pwC zs)] := by
  refine ⟨Tryz.call10, fun ρ wb w R hM _ => ?_⟩
  have hoz : (pwC zs).ok wb P := hM.ok.2.2.1
  obtain ⟨gl, g, hgl, hg, hm⟩ := log_split hM
  have hm0 : Mem wb w (logB g p .nilIface gl * (devAt T8 g D * (own P * (Le.row 52 2 (ρ 2) n cap (pzCells zs) * R)))) := by
    refine hm.eq ?_
    simp only [star, sep_emp, SV.den]
    show _ * (_ * (_ * (Le.row 52 2 (ρ 2) (pwC zs).l.length cap (pwC zs).vals * R))) = _
    rw [pw_vals, pw_len zs hn]
  obtain ⟨gz, hgz, hc⟩ := commit_call P p n cap D zs hpl hp hn hn2 hn0 hask hz h1000 ρ wb w R gl g hgl hg hoz hm0
  have e0 : (denL ρ [.ptr 1 0, .sl 2 2 0 n cap]).toArray = #[.pointer (some ⟨gl, 0, none⟩), .slice (ρ 2) n cap] := by
    simp only [denL, SV.den, hgl, hgz, Option.map_some, Addr.add0, Nat.zero_mul]
  rw [e0]
  refine hc.mono fun e w' hs => ?_
  rw [hio] at hs
  obtain ⟨rfl, hm'⟩ := hs
  refine ⟨ρ, _, P, _, fun n _ => rfl, rfl, by simp only [SV.ok], log_join (er := .raw .nilIface) (X := [.row 2 52 cap (pwC zs)]) hgl hg ?_ (by simp only [SV.ok]) rfl ⟨hoz, trivial⟩, Hp.le_refl P, rfl, rfl, rfl⟩
  refine hm'.eq ?_
  simp only [star, sep_emp, SV.den]
  show _ = _ * (_ * (_ * (Le.row 52 2 (ρ 2) (pwC zs).l.length cap (pwC zs).vals * R)))
  rw [pw_vals, pw_len zs hn]
/-- a fault's words -/
def sCommit : ByteArray := ⟨#[67, 111, 109, 109, 105, 116]⟩
def sOpen : ByteArray := ⟨#[79, 112, 101, 110]⟩
def sRead : ByteArray := ⟨#[82, 101, 97, 100]⟩
theorem ft_at {ρ : Places} {n gf : Nat} (h : ρ n = some ⟨gf, 0, none⟩) (s : ByteArray) (at' c : Int) : Ck.den ρ (ftC n s at' c) = pts gf 55 [.string s, .int .i64 at', .iface 49 (.int .i64 c)] := by
  rw [blk_at h]; rfl
theorem ft_ok (ρ : Places) (wb : World) (P : Hp) (n : Nat) (s : ByteArray) (at' c : Int) : Ck.ok ρ wb P (ftC n s at' c) := by
  refine ⟨by simp only [okL, SV.ok, and_true], ?_⟩
  intro v hv
  simp only [denL, SV.den, List.mem_cons, List.not_mem_nil, or_false] at hv
  rcases hv with rfl | rfl | rfl <;> rfl
theorem CommitFall_con (P : Hp) (p n cap : Nat) (D D' : Dev) (c : Int) (zs : List Pz) (hpl : D.pend.length ≤ 800000000) (hp : p ≤ 250) (hn : zs.length = n) (hn2 : n ≤ 250) (hn0 : 0 < n) (hask : askedFrom p 0 [] (zs.map fun z => ((z.1.1 : Int), z.1.2.length)) = (0, 0)) (hz : ∀ z ∈ zs, z.1.1 < p ∧ z.1.2.length = 1024)
    (h1000 : ∀ z ∈ zs, z.1.1 < 1000) (hio : ioCommit p ((sorted zs h1000).map (·.1)) D = (.error c, D')) :
    Con Tryz.prog [0, 1, 2] 10 [.ptr 1 0, .sl 2 2 0 n cap] P [lgC 1 0 p (.raw .nilIface), dC 0 D, .row 2 52 cap (pwC zs)] fun x P' H' => x = ftV 40 ∧ P' = P ∧ H' = [lgC 1 0 p (ftV 40), dC 0 D', .row 2 52 cap (pwC zs), ftC 40 sCommit 0 c] := by
  refine ⟨Tryz.call10, fun ρ wb w R hM _ => ?_⟩
  have hoz : (pwC zs).ok wb P := hM.ok.2.2.1
  obtain ⟨gl, g, hgl, hg, hm⟩ := log_split hM
  have hm0 : Mem wb w (logB g p .nilIface gl * (devAt T8 g D * (own P * (Le.row 52 2 (ρ 2) n cap (pzCells zs) * R)))) := by
    refine hm.eq ?_
    simp only [star, sep_emp, SV.den]
    show _ * (_ * (_ * (Le.row 52 2 (ρ 2) (pwC zs).l.length cap (pwC zs).vals * R))) = _
    rw [pw_vals, pw_len zs hn]
  obtain ⟨gz, hgz, hc⟩ := commit_call P p n cap D zs hpl hp hn hn2 hn0 hask hz h1000 ρ wb w R gl g hgl hg hoz hm0
  have e0 : (denL ρ [.ptr 1 0, .sl 2 2 0 n cap]).toArray = #[.pointer (some ⟨gl, 0, none⟩), .slice (ρ 2) n cap] := by
    simp only [denL, SV.den, hgl, hgz, Option.map_some, Addr.add0, Nat.zero_mul]
  rw [e0]
  refine hc.mono fun e w' hs => ?_
  rw [hio] at hs
  obtain ⟨v, rfl, hc0, hm'⟩ := hs
  obtain ⟨gf, rfl, hm'⟩ := Mem.faultB.1 hm'
  have e40 : pl [(40, some ⟨gf, 0, none⟩)] ρ 40 = some ⟨gf, 0, none⟩ := rfl
  have hd : (ftV 40).den (pl [(40, some ⟨gf, 0, none⟩)] ρ) = .iface 53 (.pointer (some ⟨gf, 0, none⟩)) := by simp only [SV.den, e40, Option.map_some, Addr.add0]
  refine ⟨pl [(40, some ⟨gf, 0, none⟩)] ρ, ftV 40, P, _, fun n hn => ?_, by rw [hd], by simp only [SV.ok]; exact ⟨gf, e40⟩, log_join (er := ftV 40) (gl := gl) (g := g) (l := 1) (d := 0) (X := [.row 2 52 cap (pwC zs), ftC 40 sCommit 0 c]) hgl hg ?_ (by simp only [SV.ok]; exact ⟨gf, e40⟩) (by rw [hd]; rfl) ⟨hoz, ft_ok _ _ _ _ _ _ _, trivial⟩, Hp.le_refl P, rfl, rfl, rfl⟩
  · simp only [hasN] at hn
    split at hn
    · rename_i hb; rw [← Nat.eq_of_beq_eq_true hb]; rfl
    · split at hn
      · rename_i hb; rw [← Nat.eq_of_beq_eq_true hb]; rfl
      · split at hn
        · rename_i hb; rw [← Nat.eq_of_beq_eq_true hb]; rfl
        · cases hn
  · rw [hd]
    refine hm'.eq ?_
    simp only [star, sep_emp, ft_at e40]
    show _ = _ * (_ * (_ * (Le.row 52 2 (ρ 2) (pwC zs).l.length cap (pwC zs).vals * _ * R)))
    rw [pw_vals, pw_len zs hn]
    unfold sCommit
    ac_rfl
theorem OpenFall_con (P : Hp) (D D' : Dev) (c : Int) (hpl : D.pend.length ≤ 700000000) (h : ioOpen D = (.error c, D')) :
    Con Tryz.prog [0] 18 [.ptr 0 0] P [dC 0 D] fun x P' H' => x = .tup [.raw (.pointer none), .raw (.bool false), ftV 40] ∧ P' = P ∧ H' = [dC 0 D', ftC 40 sOpen 0 c] := by
  refine ⟨Tryz.call18, fun ρ wb w R hM _ => ?_⟩
  have hm : Mem wb w (Ck.den ρ (dC 0 D) * (own P * R)) := hM.mem.eq (by simp only [star, sep_emp]; ac_rfl)
  obtain ⟨g, hg⟩ := dev_has hm
  rw [dev_at hg] at hm
  simp only [denL, SV.den, hg, Option.map_some, Addr.add0, Nat.zero_add]
  have hcall := Open_any wb w _ g D hm hpl
  rw [h] at hcall
  refine hcall.mono ?_
  rintro e w' ⟨v, rfl, -, hm'⟩
  obtain ⟨gf, rfl, hm2⟩ := Mem.faultB.1 hm'
  have e40 : pl [(40, some ⟨gf, 0, none⟩)] ρ 40 = some ⟨gf, 0, none⟩ := rfl
  have e0 : pl [(40, some ⟨gf, 0, none⟩)] ρ 0 = some ⟨g, 0, none⟩ := hg
  refine ⟨pl [(40, some ⟨gf, 0, none⟩)] ρ, _, P, [dC 0 D', ftC 40 sOpen 0 c], fun n hn => ?_, ?_, ?_, ⟨?_, (⟨trivial, ft_ok _ _ _ _ _ _ _, trivial⟩ : okC _ wb P [dC 0 D', ftC 40 sOpen 0 c])⟩, Hp.le_refl P, rfl, rfl, rfl⟩
  · simp only [hasN] at hn
    split at hn
    · rename_i hb; rw [← Nat.eq_of_beq_eq_true hb]; rfl
    · cases hn
  · simp only [SV.den, denL, e40, Option.map_some, Addr.add0]
  · simp only [SV.ok, okL, and_true, true_and]; exact ⟨gf, e40⟩
  · refine hm2.eq ?_
    simp only [star, sep_emp, ft_at e40, dev_at e0]
    unfold sOpen
    ac_rfl
end Go.Proofs.YtpaebopmppbjbaaGreatDoor

/- The law's own calls of package wal and of errors, as the engine's calls take them. -/
set_option linter.unusedVariables false
set_option linter.unusedSimpArgs false
namespace Go.Proofs.YtpaebopmppbjbaaGreatDoor
open Go Go.RowKit Go.Le Go.Eng
/-- what errors.errorType holds, as a part -/
def eT : Ck := .ab 9 [] ⟨fun _ => emp, errorTypeH⟩
theorem code_con (P : Hp) (s : ByteArray) (at' c : Int) : Con Tryz.prog [0] 12 [ftV 0] P [ftC 0 s at' c, eT] fun x P' H' => x = .raw (.int .i64 c) ∧ P' = P ∧ H' = [ftC 0 s at' c, eT] := by
  refine ⟨Tryz.call12, fun ρ wb w R hM _ => ?_⟩
  have hg : errorTypeH wb := hM.ok.2.1
  have hm : Mem wb w (Ck.den ρ (ftC 0 s at' c) * (own P * R)) := hM.mem.eq (by simp only [star, sep_emp, eT, Ck.den]; ac_rfl)
  obtain ⟨gf, hgf⟩ := blk_has hm
  rw [ft_at hgf] at hm
  simp only [denL, SV.den, hgf, Option.map_some, Addr.add0, Nat.zero_add]
  refine (code_any wb w _ hg gf s at' c hm).mono ?_
  rintro e w' ⟨rfl, hm'⟩
  refine ⟨ρ, _, P, [ftC 0 s at' c, eT], fun _ _ => rfl, rfl, by simp only [SV.ok], ⟨?_, hM.ok⟩, Hp.le_refl P, rfl, rfl, rfl⟩
  refine hm'.eq ?_
  have e9 : Ck.den ρ eT = emp := by unfold eT; simp only [Ck.den]
  simp only [star, sep_emp, emp_sep, ft_at hgf, fltB, e9]
  ac_rfl
theorem is_con (P : Hp) (s : ByteArray) (at' c : Int) : Con Tryz.prog [0] 51 [ftV 0, ftV 0] P [ftC 0 s at' c] fun x P' H' => x = .raw (.bool true) ∧ P' = P ∧ H' = [ftC 0 s at' c] := by
  refine ⟨Tryz.call51, fun ρ wb w R hM _ => ?_⟩
  have hm : Mem wb w (Ck.den ρ (ftC 0 s at' c) * (own P * R)) := hM.mem.eq (by simp only [star, sep_emp]; ac_rfl)
  obtain ⟨gf, hgf⟩ := blk_has hm
  simp only [denL, SV.den, hgf, Option.map_some, Addr.add0, Nat.zero_add]
  refine (is_same ⟨gf, 0, none⟩ w).mono ?_
  rintro e w' ⟨rfl, rfl⟩
  exact ⟨ρ, _, P, [ftC 0 s at' c], fun _ _ => rfl, rfl, by simp only [SV.ok], hM, Hp.le_refl P, rfl, rfl, rfl⟩
set_option maxRecDepth 20000 in
theorem alike_con (P : Hp) (s : ByteArray) (at' c : Int) : Con Tryz.prog [0] 25 [ftV 0, ftV 0] P [ftC 0 s at' c] fun x P' H' => x = .raw (.bool true) ∧ P' = P ∧ H' = [ftC 0 s at' c] := by
  refine con_of_fun T_good (by kernel_rfl) Tryz.call25 Tryz.func25 (by kernel_rfl) (by show 2 ≤ _; decide +kernel) ?_
  ((try conv => whnf) <;> (repeat (first | exact True.intro | ((first | refine ⟨rfl, ?_⟩ | refine ar (by omega) (by omega) ?_ | refine ar8 (by omega) (by omega) ?_ | refine ix (by omega) ?_ | refine IdxVC.mk 0 rfl (by omega) ?_ | refine BytesVC.mk _ rfl ?_ | refine DivVC.mk (by omega) (by omega) ?_); try conv => whnf))))
  refine call_con (N := []) (is_con P s at' c) ?_
  ((try conv => whnf) <;> (repeat (first | exact True.intro | ((first | refine ⟨rfl, ?_⟩ | refine ar (by omega) (by omega) ?_ | refine ar8 (by omega) (by omega) ?_ | refine ix (by omega) ?_ | refine IdxVC.mk 0 rfl (by omega) ?_ | refine BytesVC.mk _ rfl ?_ | refine DivVC.mk (by omega) (by omega) ?_); try conv => whnf))))
  rintro x P' H' - ⟨rfl, rfl, rfl⟩
  ((try conv => whnf) <;> (repeat (first | exact True.intro | ((first | refine ⟨rfl, ?_⟩ | refine ar (by omega) (by omega) ?_ | refine ar8 (by omega) (by omega) ?_ | refine ix (by omega) ?_ | refine IdxVC.mk 0 rfl (by omega) ?_ | refine BytesVC.mk _ rfl ?_ | refine DivVC.mk (by omega) (by omega) ?_); try conv => whnf))))
  refine call_con (N := []) (is_con P' s at' c) ?_
  ((try conv => whnf) <;> (repeat (first | exact True.intro | ((first | refine ⟨rfl, ?_⟩ | refine ar (by omega) (by omega) ?_ | refine ar8 (by omega) (by omega) ?_ | refine ix (by omega) ?_ | refine IdxVC.mk 0 rfl (by omega) ?_ | refine BytesVC.mk _ rfl ?_ | refine DivVC.mk (by omega) (by omega) ?_); try conv => whnf))))
  rintro x P'' H' - ⟨rfl, rfl, rfl⟩
  ((try conv => whnf) <;> (repeat (first | exact True.intro | ((first | refine ⟨rfl, ?_⟩ | refine ar (by omega) (by omega) ?_ | refine ar8 (by omega) (by omega) ?_ | refine ix (by omega) ?_ | refine IdxVC.mk 0 rfl (by omega) ?_ | refine BytesVC.mk _ rfl ?_ | refine DivVC.mk (by omega) (by omega) ?_); try conv => whnf))))
theorem Err_con (P : Hp) (p : Nat) : Con Tryz.prog [0, 1, 60] 26 [.ptr 1 0] P [lgC 1 0 p (ftV 60)] fun x P' H' => x = ftV 60 ∧ P' = P ∧ H' = [lgC 1 0 p (ftV 60)] := by
  refine con_of_fun T_good (by kernel_rfl) Tryz.call26 Tryz.func26 (by kernel_rfl) (by show 1 ≤ _; decide +kernel) ?_
  ((try conv => whnf) <;> (repeat (first | exact True.intro | ((first | refine ⟨rfl, ?_⟩ | refine ar (by omega) (by omega) ?_ | refine ar8 (by omega) (by omega) ?_ | refine ix (by omega) ?_ | refine IdxVC.mk 0 rfl (by omega) ?_ | refine BytesVC.mk _ rfl ?_ | refine DivVC.mk (by omega) (by omega) ?_); try conv => whnf))))
theorem fault_con (P : Hp) (s : ByteArray) (at' c : Int) : Con Tryz.prog [] 29 [.raw (.string s), .raw (.int .i64 at'), .raw (.int .i64 c)] P [] fun x P' H' => x = ftV 12 ∧ P' = P ∧ H' = [ftC 12 s at' c] := by
  refine con_of_fun T_good (by kernel_rfl) Tryz.call29 Tryz.func29 (by kernel_rfl) (by show 3 ≤ _; decide +kernel) ?_
  ((try conv => whnf) <;> (repeat (first | exact True.intro | ((first | refine ⟨rfl, ?_⟩ | refine ar (by omega) (by omega) ?_ | refine ar8 (by omega) (by omega) ?_ | refine ix (by omega) ?_ | refine IdxVC.mk 0 rfl (by omega) ?_ | refine BytesVC.mk _ rfl ?_ | refine DivVC.mk (by omega) (by omega) ?_); try conv => whnf))))
theorem ReadEnded_con (P : Hp) (p : Nat) (n : Int) : Con Tryz.prog [0, 1, 60] 21 [.ptr 1 0, .raw (.int .i64 n)] P [lgC 1 0 p (ftV 60)] fun x P' H' => x = .tup [.raw (.slice none 0 0), ftV 13] ∧ P' = P ∧ H' = [ftC 13 sRead 0 80, lgC 1 0 p (ftV 60)] := by
  refine Con.sub (con_of_fun T_good (by kernel_rfl) Tryz.call21 Tryz.func21 (by kernel_rfl) (by show 2 ≤ _; decide +kernel) ?_)
  ((try conv => whnf) <;> (repeat (first | exact True.intro | ((first | refine ⟨rfl, ?_⟩ | refine ar (by omega) (by omega) ?_ | refine ar8 (by omega) (by omega) ?_ | refine ix (by omega) ?_ | refine IdxVC.mk 0 rfl (by omega) ?_ | refine BytesVC.mk _ rfl ?_ | refine DivVC.mk (by omega) (by omega) ?_); try conv => whnf))))
  refine call_con (N := [12]) (fault_con P sRead 0 80) ?_
  ((try conv => whnf) <;> (repeat (first | exact True.intro | ((first | refine ⟨rfl, ?_⟩ | refine ar (by omega) (by omega) ?_ | refine ar8 (by omega) (by omega) ?_ | refine ix (by omega) ?_ | refine IdxVC.mk 0 rfl (by omega) ?_ | refine BytesVC.mk _ rfl ?_ | refine DivVC.mk (by omega) (by omega) ?_); try conv => whnf))))
  rintro x P' H' - ⟨rfl, rfl, rfl⟩
  ((try conv => whnf) <;> (repeat (first | exact True.intro | ((first | refine ⟨rfl, ?_⟩ | refine ar (by omega) (by omega) ?_ | refine ar8 (by omega) (by omega) ?_ | refine ix (by omega) ?_ | refine IdxVC.mk 0 rfl (by omega) ?_ | refine BytesVC.mk _ rfl ?_ | refine DivVC.mk (by omega) (by omega) ?_); try conv => whnf))))
  refine ⟨[ftC 13 sRead 0 80, lgC 1 0 p (ftV 60)], ?_⟩
  ((try conv => whnf) <;> (repeat (first | exact True.intro | ((first | refine ⟨rfl, ?_⟩ | refine ar (by omega) (by omega) ?_ | refine ar8 (by omega) (by omega) ?_ | refine ix (by omega) ?_ | refine IdxVC.mk 0 rfl (by omega) ?_ | refine BytesVC.mk _ rfl ?_ | refine DivVC.mk (by omega) (by omega) ?_); try conv => whnf))))
theorem j_at (js : List Pj) (k : Nat) (z : Pj) (hz : js[k]? = some z) : (Cont.vals (pwJ js))[k * 2]? = some (.int .i64 z.1) ∧ (Cont.vals (pwJ js))[k * 2 + 1]? = some (.slice z.2.1 z.2.2.2.length z.2.2.1) :=
  flat2 (fun z : Pj => Value.int .i64 z.1) (fun z : Pj => Value.slice z.2.1 z.2.2.2.length z.2.2.1) js k z hz
def askJ (p : Nat) (js : List Pj) : Nat × Int := askedFrom p 0 [] (js.map fun z => (z.1, z.2.2.2.length))
theorem asked_con (P : Hp) (p n cap : Nat) (js : List Pj) (hp : p ≤ 250) (hn : js.length = n) (hn2 : n ≤ 1000) :
    Con Tryz.prog [0, 1, 2] 30 [.ptr 1 0, .sl 2 2 0 n cap] P [lgC 1 0 p (.raw .nilIface), .row 2 52 cap (pwJ js)] fun x P' H' => x = .tup [.raw (.int .i64 ((askJ p js).1 : Int)), .raw (.int .i64 (askJ p js).2)] ∧ P' = P ∧ H' = [lgC 1 0 p (.raw .nilIface), .row 2 52 cap (pwJ js)] := by
  refine ⟨Tryz.call30, fun ρ wb w R hM _ => ?_⟩
  have hok := hM.ok
  have ho0 := hM.ok.1.1
  simp only [okL, SV.ok, and_true] at ho0
  obtain ⟨g, hg⟩ := ho0
  have hm : Mem wb w (Ck.den ρ (lgC 1 0 p (.raw .nilIface)) * (Le.row 52 2 (ρ 2) (pwJ js).l.length cap (pwJ js).vals * (own P * R))) := hM.mem.eq (by
    have e : star ρ [lgC 1 0 p (.raw .nilIface), .row 2 52 cap (pwJ js)] = Ck.den ρ (lgC 1 0 p (.raw .nilIface)) * (Le.row 52 2 (ρ 2) (pwJ js).l.length cap (pwJ js).vals * emp) := rfl
    rw [e, sep_emp]
    ac_rfl)
  obtain ⟨gl, hgl⟩ := blk_has hm
  have hgz : 0 < n → ∃ gz, ρ 2 = some ⟨gz, 0, none⟩ := fun hn0 => by
    obtain ⟨gz, rest, hgz, -⟩ := hm.p1.row_at (by show 0 < js.length; omega)
    exact ⟨gz, hgz⟩
  have hz0 : ∃ gz, 0 < n → ρ 2 = some ⟨gz, 0, none⟩ := by
    by_cases h : 0 < n
    · obtain ⟨gz, hg⟩ := hgz h; exact ⟨gz, fun _ => hg⟩
    · exact ⟨0, fun h' => absurd h' h⟩
  clear hgz
  obtain ⟨gz, hgz⟩ := hz0
  have hden : Ck.den ρ (lgC 1 0 p (.raw .nilIface)) = pts gl 86 [.pointer (some ⟨g, 0, none⟩), .int .i64 (p : Int), .nilIface] := by
    rw [blk_at hgl]
    simp only [denL, SV.den, hg, Option.map_some, Addr.add0, Nat.zero_add]
  rw [hden] at hm
  have e0 : (denL ρ [.ptr 1 0, .sl 2 2 0 n cap]).toArray = #[.pointer (some ⟨gl, 0, none⟩), .slice (ρ 2) n cap] := by
    have e2 : (ρ 2).map (·.add (0 * 2)) = ρ 2 := by cases ρ 2 <;> simp [Addr.add]
    simp only [denL, SV.den, hgl, e2, Option.map_some, Addr.add0]
  rw [e0]
  refine (wasked_any wb w _ g gl p n gz cap (ρ 2) .nilIface (js.map fun z => (z.1, z.2.1, z.2.2.2.length, z.2.2.1)) hm hp (by rw [List.length_map, hn]) hn2 hgz (fun w' h' k z hz => ?_)).mono ?_
  · rw [List.getElem?_map] at hz
    obtain ⟨z0, hz0, rfl⟩ := Option.map_eq_some_iff.1 hz
    obtain ⟨q1, q2⟩ := j_at js k z0 hz0
    have hgz := hgz (by have := (List.getElem?_eq_some_iff.1 hz0).1; omega)
    have c1 := (h'.row_cell _ hgz _ _ q1).1
    have c2 := (h'.row_cell _ hgz _ _ q2).1
    rw [Addr.add_lit, Nat.zero_add] at c1 c2
    exact ⟨c1, c2⟩
  · rintro e w' ⟨rfl, hm'⟩
    have e1 : (js.map fun z => (z.1, z.2.1, z.2.2.2.length, z.2.2.1)).map (fun z : Int × Option Addr × Nat × Nat => (z.1, z.2.2.1)) = js.map fun z => (z.1, z.2.2.2.length) := by rw [List.map_map]; rfl
    refine ⟨ρ, _, P, _, fun _ _ => rfl, ?_, ?_, ⟨?_, hok⟩, Hp.le_refl P, rfl, rfl, rfl⟩
    · rw [e1]; rfl
    · simp only [SV.ok, okL, and_true]
    · refine hm'.eq ?_
      have e : star ρ [lgC 1 0 p (.raw .nilIface), .row 2 52 cap (pwJ js)] = Ck.den ρ (lgC 1 0 p (.raw .nilIface)) * (Le.row 52 2 (ρ 2) (pwJ js).l.length cap (pwJ js).vals * emp) := rfl
      rw [e, hden, sep_emp]
      ac_rfl
set_option maxRecDepth 100000 in
theorem CommitNo_con (P : Hp) (p cap : Nat) (hp : p ≤ 250) : Con Tryz.prog [0, 1, 62] 10 [.ptr 1 0, .sl 62 2 0 0 cap] P [lgC 1 0 p (.raw .nilIface), .row 62 52 cap (pwJ [])] fun x P' H' => x = .raw .nilIface ∧ P' = P ∧ H' = [lgC 1 0 p (.raw .nilIface), .row 62 52 cap (pwJ [])] := by
  refine Con.sub (con_of_fun T_good (by kernel_rfl) Tryz.call10 Tryz.func10 (by kernel_rfl) (by show 2 ≤ _; decide +kernel) ?_)
  ((try conv => whnf) <;> (repeat (first | exact True.intro | ((first | refine ⟨rfl, ?_⟩ | refine ar (by omega) (by omega) ?_ | refine ar8 (by omega) (by omega) ?_ | refine ix (by omega) ?_ | refine IdxVC.mk 0 rfl (by omega) ?_ | refine BytesVC.mk _ rfl ?_ | refine DivVC.mk (by omega) (by omega) ?_); try conv => whnf))))
  refine call_con (N := []) (asked_con P p 0 cap [] hp rfl (by omega)) ?_
  ((try conv => whnf) <;> (repeat (first | exact True.intro | ((first | refine ⟨rfl, ?_⟩ | refine ar (by omega) (by omega) ?_ | refine ar8 (by omega) (by omega) ?_ | refine ix (by omega) ?_ | refine IdxVC.mk 0 rfl (by omega) ?_ | refine BytesVC.mk _ rfl ?_ | refine DivVC.mk (by omega) (by omega) ?_); try conv => whnf))))
  rintro x P' H' - ⟨rfl, rfl, rfl⟩
  ((try conv => whnf) <;> (repeat (first | exact True.intro | ((first | refine ⟨rfl, ?_⟩ | refine ar (by omega) (by omega) ?_ | refine ar8 (by omega) (by omega) ?_ | refine ix (by omega) ?_ | refine IdxVC.mk 0 rfl (by omega) ?_ | refine BytesVC.mk _ rfl ?_ | refine DivVC.mk (by omega) (by omega) ?_); try conv => whnf))))
  refine ⟨[lgC 1 0 p (.raw .nilIface), .row 62 52 cap (pwJ [])], ?_⟩
  ((try conv => whnf) <;> (repeat (first | exact True.intro | ((first | refine ⟨rfl, ?_⟩ | refine ar (by omega) (by omega) ?_ | refine ar8 (by omega) (by omega) ?_ | refine ix (by omega) ?_ | refine IdxVC.mk 0 rfl (by omega) ?_ | refine BytesVC.mk _ rfl ?_ | refine DivVC.mk (by omega) (by omega) ?_); try conv => whnf))))
end Go.Proofs.YtpaebopmppbjbaaGreatDoor

/- lethelaw09's pick, bytes, clean, stands, wanted, by the engine. -/
set_option linter.unusedVariables false
set_option linter.unusedSimpArgs false
namespace Go.Proofs.YtpaebopmppbjbaaGreatDoor
open Go Go.RowKit Go.Le Go.Eng
theorem pick_con (P : Hp) (k n : Int) (h1 : 1 ≤ n) (h2 : n ≤ 4611686018427387904) (k1 : -9223372036854775808 ≤ k) (k2 : k ≤ 9223372036854775807) :
    Con Tryz.prog [] 11 [.raw (.int .i64 k), .raw (.int .i64 n)] P [] fun x P' H' => x = .raw (.int .i64 (k % n)) ∧ P' = P ∧ H' = [] :=
  con_pure Tryz.call11 (fun _ => rfl) fun w => pick9_any w k n h1 h2 k1 k2
theorem byt_mod (n : Int) : ∃ y : UInt8, ((y.toNat : Nat) : Int) = n % 256 := ⟨UInt8.ofNat (n % 256).toNat, by
  have h1 := Int.emod_nonneg n (show (256 : Int) ≠ 0 by omega)
  have h2 := Int.emod_lt_of_pos n (show (0 : Int) < 256 by omega)
  rw [UInt8.toNat_ofNat']
  omega⟩
abbrev L1024 := { l : List UInt8 // l.length = 1024 }
set_option maxRecDepth 100000 in
set_option maxHeartbeats 4000000 in
theorem bytes_con (P : Hp) (nu : Int) (f : UInt8) (h1 : 0 ≤ nu) (h2 : nu ≤ 1000000) :
    Con Tryz.prog [] 28 [.agg [.raw (.int .i64 nu), .raw (.int .u8 (f.toNat : Int)), .raw (.int .i64 0)]] P [] fun x P' H' => ∃ a cap l, x = .bs a cap l ∧ l.length = 1024 ∧ H' = [] := by
  refine Con.sub ?_
  have h : Con Tryz.prog [] 28 [.agg [.raw (.int .i64 nu), .raw (.int .u8 (f.toNat : Int)), .raw (.int .i64 0)]] P [] fun x P' H' => ∃ l r, x = .sl 11 1 0 l.length 1024 ∧ H' = .row 11 5 1024 (Eng.bytes l) :: r ∧ l.length = 1024 := by
    refine con_of_fun T_good (by kernel_rfl) Tryz.call28 Tryz.func28 (by kernel_rfl) (by show 1 ≤ _; decide +kernel) ?_
    ((try conv => whnf) <;> (repeat (first | exact True.intro | ((first | refine ⟨rfl, ?_⟩ | refine ar (by omega) (by omega) ?_ | refine ar8 (by omega) (by omega) ?_ | refine ix (by omega) ?_ | refine IdxVC.mk 0 rfl (by omega) ?_ | refine BytesVC.mk _ rfl ?_ | refine DivVC.mk (by omega) (by omega) ?_); try conv => whnf))))
    refine .mk 1024 1024 (by omega) (by omega) (Nat.le_refl _) (by simp) (by omega) ?_
    ((try conv => whnf) <;> (repeat (first | exact True.intro | ((first | refine ⟨rfl, ?_⟩ | refine ar (by omega) (by omega) ?_ | refine ar8 (by omega) (by omega) ?_ | refine ix (by omega) ?_ | refine IdxVC.mk 0 rfl (by omega) ?_ | refine BytesVC.mk _ rfl ?_ | refine DivVC.mk (by omega) (by omega) ?_); try conv => whnf))))
    refine .mk (β := { x : Nat × L1024 // x.1 ≤ 1024 }) (fun ⟨(k, l), _⟩ => ⟨[(5, .raw (.int .i64 (k : Int))), (4, .sl 11 1 0 1024 1024), (3, .raw (.int .i64 1024)), (1, .ptr 1 0)], P, [.row 11 5 1024 (Eng.bytes l.1), .blk 1 26 [.raw (.int .i64 nu), .raw (.int .u8 (f.toNat : Int)), .raw (.int .i64 0)]]⟩) (fun b => 1024 - b.1.1) ⟨(0, ⟨List.replicate 1024 0, by simp⟩), by simp⟩ ?_ ?_
    · ((try conv => whnf) <;> (repeat (first | exact True.intro | ((first | refine ⟨rfl, ?_⟩ | refine ar (by omega) (by omega) ?_ | refine ar8 (by omega) (by omega) ?_ | refine ix (by omega) ?_ | refine IdxVC.mk 0 rfl (by omega) ?_ | refine BytesVC.mk _ rfl ?_ | refine DivVC.mk (by omega) (by omega) ?_); try conv => whnf))))
    · rintro ⟨⟨k, l, hl⟩, hk⟩ -
      have hk : k ≤ 1024 := hk
      conv => whnf
      refine brd (fun hlt => ?_) (fun hge => ?_)
      · have hlt : k < 1024 := by omega
        ((try conv => whnf) <;> (repeat (first | exact True.intro | ((first | refine ⟨rfl, ?_⟩ | refine ar (by omega) (by omega) ?_ | refine ar8 (by omega) (by omega) ?_ | refine ix (by omega) ?_ | refine IdxVC.mk 0 rfl (by omega) ?_ | refine BytesVC.mk _ rfl ?_ | refine DivVC.mk (by omega) (by omega) ?_); try conv => whnf))))
        refine .mk _ f (by show l[0 + k]? = _; rw [Nat.zero_add]; exact List.getElem?_eq_getElem (by omega)) rfl (Nat.le_refl _) ?_
        ((try conv => whnf) <;> (repeat (first | exact True.intro | ((first | refine ⟨rfl, ?_⟩ | refine ar (by omega) (by omega) ?_ | refine ar8 (by omega) (by omega) ?_ | refine ix (by omega) ?_ | refine IdxVC.mk 0 rfl (by omega) ?_ | refine BytesVC.mk _ rfl ?_ | refine DivVC.mk (by omega) (by omega) ?_); try conv => whnf))))
        refine ⟨⟨(k + 1, ⟨(Eng.bytes l).l.set (0 + k) f, by show (List.set l _ _).length = _; rw [List.length_set, hl]⟩), by show k + 1 ≤ 1024; omega⟩, show 1024 - (k + 1) < 1024 - k by omega, ?_⟩
        ((try conv => whnf) <;> (repeat (first | exact True.intro | ((first | refine ⟨rfl, ?_⟩ | refine ar (by omega) (by omega) ?_ | refine ar8 (by omega) (by omega) ?_ | refine ix (by omega) ?_ | refine IdxVC.mk 0 rfl (by omega) ?_ | refine BytesVC.mk _ rfl ?_ | refine DivVC.mk (by omega) (by omega) ?_); try conv => whnf))))
      · ((try conv => whnf) <;> (repeat (first | exact True.intro | ((first | refine ⟨rfl, ?_⟩ | refine ar (by omega) (by omega) ?_ | refine ar8 (by omega) (by omega) ?_ | refine ix (by omega) ?_ | refine IdxVC.mk 0 rfl (by omega) ?_ | refine BytesVC.mk _ rfl ?_ | refine DivVC.mk (by omega) (by omega) ?_); try conv => whnf))))
        refine ar8w ?_
        obtain ⟨y, hy⟩ := byt_mod nu
        obtain ⟨z, hz⟩ := byt_mod (nu + 1)
        rw [← hy]
        ((try conv => whnf) <;> (repeat (first | exact True.intro | ((first | refine ⟨rfl, ?_⟩ | refine ar (by omega) (by omega) ?_ | refine ar8 (by omega) (by omega) ?_ | refine ix (by omega) ?_ | refine IdxVC.mk 0 rfl (by omega) ?_ | refine BytesVC.mk _ rfl ?_ | refine DivVC.mk (by omega) (by omega) ?_); try conv => whnf))))
        refine .mk _ y (by show l[0]? = _; exact List.getElem?_eq_getElem (by omega)) rfl (Nat.le_refl _) ?_
        ((try conv => whnf) <;> (repeat (first | exact True.intro | ((first | refine ⟨rfl, ?_⟩ | refine ar (by omega) (by omega) ?_ | refine ar8 (by omega) (by omega) ?_ | refine ix (by omega) ?_ | refine IdxVC.mk 0 rfl (by omega) ?_ | refine BytesVC.mk _ rfl ?_ | refine DivVC.mk (by omega) (by omega) ?_); try conv => whnf))))
        refine ar8w ?_
        rw [← hz]
        ((try conv => whnf) <;> (repeat (first | exact True.intro | ((first | refine ⟨rfl, ?_⟩ | refine ar (by omega) (by omega) ?_ | refine ar8 (by omega) (by omega) ?_ | refine ix (by omega) ?_ | refine IdxVC.mk 0 rfl (by omega) ?_ | refine BytesVC.mk _ rfl ?_ | refine DivVC.mk (by omega) (by omega) ?_); try conv => whnf))))
        refine IdxVC.mk 511 rfl (by omega) ?_
        ((try conv => whnf) <;> (repeat (first | exact True.intro | ((first | refine ⟨rfl, ?_⟩ | refine ar (by omega) (by omega) ?_ | refine ar8 (by omega) (by omega) ?_ | refine ix (by omega) ?_ | refine IdxVC.mk 0 rfl (by omega) ?_ | refine BytesVC.mk _ rfl ?_ | refine DivVC.mk (by omega) (by omega) ?_); try conv => whnf))))
        refine .mk _ z (by show (List.set l _ _)[511]? = _; exact List.getElem?_eq_getElem (by rw [List.length_set]; omega)) rfl (Nat.le_refl _) ?_
        ((try conv => whnf) <;> (repeat (first | exact True.intro | ((first | refine ⟨rfl, ?_⟩ | refine ar (by omega) (by omega) ?_ | refine ar8 (by omega) (by omega) ?_ | refine ix (by omega) ?_ | refine IdxVC.mk 0 rfl (by omega) ?_ | refine BytesVC.mk _ rfl ?_ | refine DivVC.mk (by omega) (by omega) ?_); try conv => whnf))))
        exact ⟨(l.set 0 y).set 511 z, _, congrArg (fun n => SV.sl 11 1 0 n 1024) (by simp [hl]), rfl, by simp [hl]⟩
  refine (Con.freeze h (fun l _ _ => l.length = 1024) fun x P' H' ⟨l, r, e1, e2, e3⟩ => ⟨11, _, 1024, l, r, e1, e2, e3⟩).mono ?_
  rintro x P' H' ⟨a, cap, l, P1, rfl, -, hl⟩
  exact ⟨[], a, cap, l, rfl, hl, rfl⟩
/-- the law's room: its disk, its log, how many pages, what is behind, the pages' row -/
abbrev rmC (n d l p more s pc : Nat) : Ck := .blk n 43 [.ptr d 0, .ptr l 0, .raw (.int .i64 (p : Int)), .raw (.int .i64 (more : Int)), .sl s 1 0 p pc]
abbrev rowC (s pc : Nat) (L : List (List UInt8)) : Ck := .row s 9 pc (strsC L)
theorem strs_vals (L : List (List UInt8)) : Cont.vals (strsC L) = pstrs L := by
  induction L with
  | nil => rfl
  | cons x r ih => show Value.string ⟨x.toArray⟩ :: Cont.vals (strsC r) = Value.string ⟨x.toArray⟩ :: pstrs r; rw [ih]
theorem clean_con (P : Hp) (p more pc : Nat) (L : List (List UInt8)) (hL : L.length = p) (hL2 : ∀ x ∈ L, x.length = 1024) (hp : p ≤ 20) (hmo : more ≤ 3) (D : Dev) (hpd : D.pend = []) (himg : D.img = zrs (512 * (1 + 2 * p)) ++ L.flatten ++ zrs (512 * more)) :
    Con Tryz.prog [300, 301, 302, 303] 13 [.ptr 302 0] P [rmC 302 300 301 p more 303 pc, rowC 303 pc L, dC 300 D] fun x P' H' => x = .raw (.bool true) ∧ P' = P ∧ H' = [rmC 302 300 301 p more 303 pc, rowC 303 pc L, dC 300 D] := by
  refine ⟨Tryz.call13, fun ρ wb w R hM _ => ?_⟩
  have hok := hM.ok
  have ho0 := hM.ok.1.1
  simp only [okL, SV.ok, and_true, true_and] at ho0
  obtain ⟨⟨g, hg⟩, ⟨gl, hgl⟩, hs3⟩ := ho0
  have e : star ρ [rmC 302 300 301 p more 303 pc, rowC 303 pc L, dC 300 D] = Ck.den ρ (rmC 302 300 301 p more 303 pc) * (Le.row 9 1 (ρ 303) (strsC L).l.length pc (strsC L).vals * (Ck.den ρ (dC 300 D) * emp)) := rfl
  have hm : Mem wb w (Ck.den ρ (rmC 302 300 301 p more 303 pc) * (Le.row 9 1 (ρ 303) p pc (pstrs L) * (devAt T8 g D * (own P * R)))) := hM.mem.eq (by
    rw [e, sep_emp, strs_vals, dev_at hg, show (strsC L).l.length = p from hL]; ac_rfl)
  obtain ⟨gr, hgr⟩ := blk_has hm
  have hden : Ck.den ρ (rmC 302 300 301 p more 303 pc) = pts gr 43 (roomCells g gl p more (ρ 303) pc) := by
    rw [blk_at hgr]
    simp only [denL, SV.den, hg, hgl, roomCells, Option.map_some, Addr.add0, Nat.zero_add, Nat.zero_mul]
    cases ρ 303 <;> simp [Addr.add]
  rw [hden] at hm
  simp only [denL, SV.den, hgr, Option.map_some, Addr.add0, Nat.zero_add]
  refine (clean_any wb w _ gr g gl p more pc (ρ 303) L hL hL2 hp hmo D hm hpd himg).mono ?_
  rintro e2 w' ⟨rfl, hm'⟩
  refine ⟨ρ, _, P, _, fun _ _ => rfl, rfl, by simp only [SV.ok], ⟨?_, hok⟩, Hp.le_refl P, rfl, rfl, rfl⟩
  refine hm'.eq ?_
  rw [e, sep_emp, strs_vals, dev_at hg, hden, show (strsC L).l.length = p from hL]
  ac_rfl
theorem ba_beq (a b : List UInt8) : ((⟨a.toArray⟩ : ByteArray).toList == (⟨b.toArray⟩ : ByteArray).toList) = decide (a = b) := by
  rw [ByteArray.toList_eq, ByteArray.toList_eq]
  show (a == b) = _
  rw [Bool.eq_iff_iff, beq_iff_eq, decide_eq_true_iff]
set_option maxRecDepth 100000 in
set_option maxHeartbeats 4000000 in
theorem stands_con (P : Hp) (p more pc pc2 : Nat) (L : List (List UInt8)) (hL : L.length = p) (hp : p ≤ 20) (D : Dev) (hpl : D.pend = []) (pg : Nat → List UInt8) (hpg : ∀ n, n < p → ioPage p n D = (.ok (pg n), D)) :
    Con Tryz.prog [0, 1, 300, 301, 302, 303, 305] 14 [.ptr 302 0, .sl 305 1 0 p pc2] P [rmC 302 300 301 p more 303 pc, lgC 301 300 p (.raw .nilIface), dC 300 D, rowC 305 pc2 L] fun x P' H' => x = .raw (.bool (decide (∀ n, n < p → L[n]? = some (pg n)))) ∧ P' = P ∧ H' = [rmC 302 300 301 p more 303 pc, lgC 301 300 p (.raw .nilIface), dC 300 D, rowC 305 pc2 L] := by
  refine Con.sub (con_of_fun T_good (by kernel_rfl) Tryz.call14 Tryz.func14 (by kernel_rfl) (by show 2 ≤ _; decide +kernel) ?_)
  ((try conv => whnf) <;> (repeat (first | exact True.intro | ((first | refine ⟨rfl, ?_⟩ | refine ar (by omega) (by omega) ?_ | refine ar8 (by omega) (by omega) ?_ | refine ix (by omega) ?_ | refine IdxVC.mk 0 rfl (by omega) ?_ | refine BytesVC.mk _ rfl ?_ | refine DivVC.mk (by omega) (by omega) ?_); try conv => whnf))))
  refine .mk (β := { k : Nat // k ≤ p ∧ ∀ n, n < k → L[n]? = some (pg n) }) (fun ⟨k, _⟩ => ⟨[(5, .raw (.int .i64 (k : Int))), (1, .sl 305 1 0 p pc2), (0, .ptr 302 0)], P, [rmC 302 300 301 p more 303 pc, lgC 301 300 p (.raw .nilIface), dC 300 D, rowC 305 pc2 L]⟩) (fun b => p - b.1) ⟨0, by omega, fun n hn => by omega⟩ ?_ ?_
  · ((try conv => whnf) <;> (repeat (first | exact True.intro | ((first | refine ⟨rfl, ?_⟩ | refine ar (by omega) (by omega) ?_ | refine ar8 (by omega) (by omega) ?_ | refine ix (by omega) ?_ | refine IdxVC.mk 0 rfl (by omega) ?_ | refine BytesVC.mk _ rfl ?_ | refine DivVC.mk (by omega) (by omega) ?_); try conv => whnf))))
  · rintro ⟨k, hk, hkp⟩ -
    conv => whnf
    refine brd (fun hlt => ?_) (fun hge => ?_)
    · have hlt : k < p := by omega
      ((try conv => whnf) <;> (repeat (first | exact True.intro | ((first | refine ⟨rfl, ?_⟩ | refine ar (by omega) (by omega) ?_ | refine ar8 (by omega) (by omega) ?_ | refine ix (by omega) ?_ | refine IdxVC.mk 0 rfl (by omega) ?_ | refine BytesVC.mk _ rfl ?_ | refine DivVC.mk (by omega) (by omega) ?_); try conv => whnf))))
      refine call_con (N := [22]) (Read_con P p k D D (pg k) (by rw [hpl]; simp) hlt (by omega) (hpg k hlt)) ?_
      ((try conv => whnf) <;> (repeat (first | exact True.intro | ((first | refine ⟨rfl, ?_⟩ | refine ar (by omega) (by omega) ?_ | refine ar8 (by omega) (by omega) ?_ | refine ix (by omega) ?_ | refine IdxVC.mk 0 rfl (by omega) ?_ | refine BytesVC.mk _ rfl ?_ | refine DivVC.mk (by omega) (by omega) ?_); try conv => whnf))))
      rintro x P' H' - ⟨rfl, rfl, rfl⟩
      ((try conv => whnf) <;> (repeat (first | exact True.intro | ((first | refine ⟨rfl, ?_⟩ | refine ar (by omega) (by omega) ?_ | refine ar8 (by omega) (by omega) ?_ | refine ix (by omega) ?_ | refine IdxVC.mk 0 rfl (by omega) ?_ | refine BytesVC.mk _ rfl ?_ | refine DivVC.mk (by omega) (by omega) ?_); try conv => whnf))))
      have hkl : k < L.length := by omega
      refine .mk (L[k]) (by show L[0 + k]? = _; rw [Nat.zero_add]; exact List.getElem?_eq_getElem hkl) ?_
      ((try conv => whnf) <;> (repeat (first | exact True.intro | ((first | refine ⟨rfl, ?_⟩ | refine ar (by omega) (by omega) ?_ | refine ar8 (by omega) (by omega) ?_ | refine ix (by omega) ?_ | refine IdxVC.mk 0 rfl (by omega) ?_ | refine BytesVC.mk _ rfl ?_ | refine DivVC.mk (by omega) (by omega) ?_); try conv => whnf))))
      refine .mk (by omega) ?_
      rw [List.drop_zero, List.take_length]
      ((try conv => whnf) <;> (repeat (first | exact True.intro | ((first | refine ⟨rfl, ?_⟩ | refine ar (by omega) (by omega) ?_ | refine ar8 (by omega) (by omega) ?_ | refine ix (by omega) ?_ | refine IdxVC.mk 0 rfl (by omega) ?_ | refine BytesVC.mk _ rfl ?_ | refine DivVC.mk (by omega) (by omega) ?_); try conv => whnf))))
      refine And.intro ?_ ?_
      · ((try conv => whnf) <;> (repeat (first | exact True.intro | ((first | refine ⟨rfl, ?_⟩ | refine ar (by omega) (by omega) ?_ | refine ar8 (by omega) (by omega) ?_ | refine ix (by omega) ?_ | refine IdxVC.mk 0 rfl (by omega) ?_ | refine BytesVC.mk _ rfl ?_ | refine DivVC.mk (by omega) (by omega) ?_); try conv => whnf))))
        refine .mk (L[k]) (by show L[0 + k]? = _; rw [Nat.zero_add]; exact List.getElem?_eq_getElem hkl) ?_
        ((try conv => whnf) <;> (repeat (first | exact True.intro | ((first | refine ⟨rfl, ?_⟩ | refine ar (by omega) (by omega) ?_ | refine ar8 (by omega) (by omega) ?_ | refine ix (by omega) ?_ | refine IdxVC.mk 0 rfl (by omega) ?_ | refine BytesVC.mk _ rfl ?_ | refine DivVC.mk (by omega) (by omega) ?_); try conv => whnf))))
      ((try conv => whnf) <;> (repeat (first | exact True.intro | ((first | refine ⟨rfl, ?_⟩ | refine ar (by omega) (by omega) ?_ | refine ar8 (by omega) (by omega) ?_ | refine ix (by omega) ?_ | refine IdxVC.mk 0 rfl (by omega) ?_ | refine BytesVC.mk _ rfl ?_ | refine DivVC.mk (by omega) (by omega) ?_); try conv => whnf))))
      refine .mk _ (ba_beq _ _) ?_
      ((try conv => whnf) <;> (repeat (first | exact True.intro | ((first | refine ⟨rfl, ?_⟩ | refine ar (by omega) (by omega) ?_ | refine ar8 (by omega) (by omega) ?_ | refine ix (by omega) ?_ | refine IdxVC.mk 0 rfl (by omega) ?_ | refine BytesVC.mk _ rfl ?_ | refine DivVC.mk (by omega) (by omega) ?_); try conv => whnf))))
      refine brn (fun hne => ?_) (fun heq => ?_)
      · have hd : decide (∀ n, n < p → L[n]? = some (pg n)) = false := by
          rw [decide_eq_false_iff_not]
          intro h
          have h1 := h k hlt
          rw [List.getElem?_eq_getElem hkl] at h1
          exact hne (Option.some.inj h1).symm
        ((try conv => whnf) <;> (repeat (first | exact True.intro | ((first | refine ⟨rfl, ?_⟩ | refine ar (by omega) (by omega) ?_ | refine ar8 (by omega) (by omega) ?_ | refine ix (by omega) ?_ | refine IdxVC.mk 0 rfl (by omega) ?_ | refine BytesVC.mk _ rfl ?_ | refine DivVC.mk (by omega) (by omega) ?_); try conv => whnf))))
        refine ⟨[rmC 302 300 301 p more 303 pc, lgC 301 300 p (.raw .nilIface), dC 300 D, rowC 305 pc2 L], ?_⟩
        rw [hd]
        ((try conv => whnf) <;> (repeat (first | exact True.intro | ((first | refine ⟨rfl, ?_⟩ | refine ar (by omega) (by omega) ?_ | refine ar8 (by omega) (by omega) ?_ | refine ix (by omega) ?_ | refine IdxVC.mk 0 rfl (by omega) ?_ | refine BytesVC.mk _ rfl ?_ | refine DivVC.mk (by omega) (by omega) ?_); try conv => whnf))))
      · ((try conv => whnf) <;> (repeat (first | exact True.intro | ((first | refine ⟨rfl, ?_⟩ | refine ar (by omega) (by omega) ?_ | refine ar8 (by omega) (by omega) ?_ | refine ix (by omega) ?_ | refine IdxVC.mk 0 rfl (by omega) ?_ | refine BytesVC.mk _ rfl ?_ | refine DivVC.mk (by omega) (by omega) ?_); try conv => whnf))))
        refine ⟨⟨k + 1, by omega, fun n hn => ?_⟩, show p - (k + 1) < p - k by omega, ?_⟩
        · by_cases h : n = k
          · subst h; rw [List.getElem?_eq_getElem hkl, heq]
          · exact hkp n (by omega)
        · ((try conv => whnf) <;> (repeat (first | exact True.intro | ((first | refine ⟨rfl, ?_⟩ | refine ar (by omega) (by omega) ?_ | refine ar8 (by omega) (by omega) ?_ | refine ix (by omega) ?_ | refine IdxVC.mk 0 rfl (by omega) ?_ | refine BytesVC.mk _ rfl ?_ | refine DivVC.mk (by omega) (by omega) ?_); try conv => whnf))))
    · have hd : decide (∀ n, n < p → L[n]? = some (pg n)) = true := by
        rw [decide_eq_true_iff]
        intro n hn
        exact hkp n (by omega)
      ((try conv => whnf) <;> (repeat (first | exact True.intro | ((first | refine ⟨rfl, ?_⟩ | refine ar (by omega) (by omega) ?_ | refine ar8 (by omega) (by omega) ?_ | refine ix (by omega) ?_ | refine IdxVC.mk 0 rfl (by omega) ?_ | refine BytesVC.mk _ rfl ?_ | refine DivVC.mk (by omega) (by omega) ?_); try conv => whnf))))
      refine ⟨[rmC 302 300 301 p more 303 pc, lgC 301 300 p (.raw .nilIface), dC 300 D, rowC 305 pc2 L], ?_⟩
      rw [hd]
      ((try conv => whnf) <;> (repeat (first | exact True.intro | ((first | refine ⟨rfl, ?_⟩ | refine ar (by omega) (by omega) ?_ | refine ar8 (by omega) (by omega) ?_ | refine ix (by omega) ?_ | refine IdxVC.mk 0 rfl (by omega) ?_ | refine BytesVC.mk _ rfl ?_ | refine DivVC.mk (by omega) (by omega) ?_); try conv => whnf))))
end Go.Proofs.YtpaebopmppbjbaaGreatDoor

/- lethelaw09's wanted, by the engine. -/
set_option linter.unusedVariables false
set_option linter.unusedSimpArgs false
namespace Go.Proofs.YtpaebopmppbjbaaGreatDoor
open Go Go.RowKit Go.Le Go.Eng
abbrev Pg0 := Int × UInt8 × Int
def pgEnc (x : Pg0) : List Cell := [.v (.int .i64 x.1), .v (.int .u8 (x.2.1.toNat : Int)), .v (.int .i64 x.2.2)]
def pagesC (T : List Pg0) : Cont := ⟨3, id, T.map pgEnc⟩
/-- a fall: its step; the loss: where its numbers stand, they, the torn one, how much of it -/
structure Fl where
  step : Int
  ka : Option Addr
  kc : Nat
  loss : Loss
def flEnc (x : Fl) : List Cell := [.v (.int .i64 x.step), .rs x.ka x.kc 1 (x.loss.keep.map kEnc), .v (.int .i64 x.loss.torn), .v (.int .i64 x.loss.off)]
def fallsC (F : List Fl) : Cont := ⟨4, id, F.map flEnc⟩
/-- pages that can be written together; the list of all pages behind them -/
structure WOk (p : Nat) (L : List (List UInt8)) (zs : List Pz) (L' : List (List UInt8)) : Prop where
  nodup : (zs.map (·.1.1)).Nodup
  fit : ∀ z ∈ zs, z.1.1 < p ∧ z.1.2.length = 1024
  len : zs.length ≤ 20
  set : L' = setP L (zs.map (·.1))
/-- in the midst of it -/
structure WIn (p : Nat) (L : List (List UInt8)) (k : Nat) (zs : List Pz) (L' : List (List UInt8)) (done : List Bool) (T : Nat) : Prop where
  nodup : (zs.map (·.1.1)).Nodup
  fit : ∀ z ∈ zs, z.1.1 < p ∧ z.1.2.length = 1024
  len : zs.length ≤ k
  set : L' = setP L (zs.map (·.1))
  k1 : k ≤ 20
  k2 : k ≤ T
  done : done = (List.range p).map fun i => decide (i ∈ zs.map (·.1.1))
structure WSt where
  k : Nat
  P : Hp
  zs : List Pz
  cap : Nat
  L : List (List UInt8)
  done : List Bool
set_option maxRecDepth 100000 in
set_option maxHeartbeats 4000000 in
theorem wanted_con (P : Hp) (p more pc : Nat) (L : List (List UInt8)) (hL : L.length = p) (hp1 : 1 ≤ p) (hp : p ≤ 20) (ta : Option Addr) (tc : Nat) (T : List Pg0) (hT : ∀ x ∈ T, -9223372036854775808 ≤ x.1 ∧ x.1 ≤ 9223372036854775807) (cr an : Bool) (fa : Option Addr) (fc : Nat) (F : List Fl) :
    Con Tryz.prog [0, 300, 301, 302, 303] 8 [.ptr 302 0, .agg [.rs ta tc (pagesC T), .raw (.bool cr), .rs fa fc (fallsC F), .raw (.bool an)]] P [rmC 302 300 301 p more 303 pc, rowC 303 pc L] fun x P' H' =>
      ∃ zs L' co ca, WOk p L zs L' ∧ x = .tup [.sl 306 2 0 zs.length co, .sl 17 1 0 p ca] ∧ H' = [.row 306 52 co (pwC zs), rowC 17 ca L', rmC 302 300 301 p more 303 pc, rowC 303 pc L] := by
  refine Con.sub (con_of_fun T_good (by kernel_rfl) Tryz.call8 Tryz.func8 (by kernel_rfl) (by show 2 ≤ _; decide +kernel) ?_)
  ((try conv => whnf) <;> (repeat (first | exact True.intro | ((first | refine ⟨rfl, ?_⟩ | refine ar (by omega) (by omega) ?_ | refine ar8 (by omega) (by omega) ?_ | refine ix (by omega) ?_ | refine IdxVC.mk 0 rfl (by omega) ?_ | refine BytesVC.mk _ rfl ?_ | refine DivVC.mk (by omega) (by omega) ?_); try conv => whnf))))
  refine .mk (by show 0 + p ≤ L.length; omega) ?_
  ((try conv => whnf) <;> (repeat (first | exact True.intro | ((first | refine ⟨rfl, ?_⟩ | refine ar (by omega) (by omega) ?_ | refine ar8 (by omega) (by omega) ?_ | refine ix (by omega) ?_ | refine IdxVC.mk 0 rfl (by omega) ?_ | refine BytesVC.mk _ rfl ?_ | refine DivVC.mk (by omega) (by omega) ?_); try conv => whnf))))
  refine .mk (strsC L) rfl (by show L.map (strsC L).enc = List.map _ (List.take p (List.drop 0 L)); rw [List.drop_zero, List.take_of_length_le (by omega)]; rfl) ?_
  ((try conv => whnf) <;> (repeat (first | exact True.intro | ((first | refine ⟨rfl, ?_⟩ | refine ar (by omega) (by omega) ?_ | refine ar8 (by omega) (by omega) ?_ | refine ix (by omega) ?_ | refine IdxVC.mk 0 rfl (by omega) ?_ | refine BytesVC.mk _ rfl ?_ | refine DivVC.mk (by omega) (by omega) ?_); try conv => whnf))))
  refine ap (by show L.length * 16 ≤ _; omega) (by show L.length ≤ _; omega) (fun ca hca hca2 => ?_)
  ((try conv => whnf) <;> (repeat (first | exact True.intro | ((first | refine ⟨rfl, ?_⟩ | refine ar (by omega) (by omega) ?_ | refine ar8 (by omega) (by omega) ?_ | refine ix (by omega) ?_ | refine IdxVC.mk 0 rfl (by omega) ?_ | refine BytesVC.mk _ rfl ?_ | refine DivVC.mk (by omega) (by omega) ?_); try conv => whnf))))
  refine .mk p p (by omega) (by omega) (Nat.le_refl _) (by simp; omega) (by omega) ?_
  ((try conv => whnf) <;> (repeat (first | exact True.intro | ((first | refine ⟨rfl, ?_⟩ | refine ar (by omega) (by omega) ?_ | refine ar8 (by omega) (by omega) ?_ | refine ix (by omega) ?_ | refine IdxVC.mk 0 rfl (by omega) ?_ | refine BytesVC.mk _ rfl ?_ | refine DivVC.mk (by omega) (by omega) ?_); try conv => whnf))))
  have hdone : ∀ l : List Nat, bools (List.replicate p false) = bools ((List.range p).map fun i => decide (i ∈ ([] : List Nat))) := fun _ => by
    congr 1
    apply List.ext_getElem
    · simp
    · intro i h1 h2; simp
  have hTl : (T.map pgEnc).length = T.length := List.length_map ..
  refine .nil 6 306 52 (pwJ []) rfl (by conv => whnf) rfl rfl (by conv => whnf) ?_
  refine .mk (β := { s : WSt // WIn p L s.k s.zs s.L s.done T.length }) (fun ⟨⟨k, P, zs, cap, L', done⟩, _⟩ => ⟨[(9, .raw (.int .i64 (k : Int))), (8, .sl 22 1 0 p p), (7, .sl 17 1 0 p ca), (6, .sl 306 2 0 zs.length cap), (3, .ptr 3 0), (0, .ptr 302 0)], P, [.row 22 4 p (bools done), .row 17 9 ca (strsC L'), .row 306 52 cap (pwC zs), .blk 3 34 [.rs ta tc (pagesC T), .raw (.bool cr), .rs fa fc (fallsC F), .raw (.bool an)], rmC 302 300 301 p more 303 pc, rowC 303 pc L]⟩) (fun b => T.length - b.1.k) ⟨⟨0, P, [], 0, L, (List.range p).map fun i => decide (i ∈ ([] : List Nat))⟩, ⟨by simp, by simp, by simp, rfl, by simp, by simp, rfl⟩⟩ ?_ ?_
  · ((try conv => whnf) <;> (repeat (first | exact True.intro | ((first | refine ⟨rfl, ?_⟩ | refine ar (by omega) (by omega) ?_ | refine ar8 (by omega) (by omega) ?_ | refine ix (by omega) ?_ | refine IdxVC.mk 0 rfl (by omega) ?_ | refine BytesVC.mk _ rfl ?_ | refine DivVC.mk (by omega) (by omega) ?_); try conv => whnf))))
    refine ⟨by show SV.sl 17 1 0 L.length ca = _; rw [hL], ?_⟩
    ((try conv => whnf) <;> (repeat (first | exact True.intro | ((first | refine ⟨rfl, ?_⟩ | refine ar (by omega) (by omega) ?_ | refine ar8 (by omega) (by omega) ?_ | refine ix (by omega) ?_ | refine IdxVC.mk 0 rfl (by omega) ?_ | refine BytesVC.mk _ rfl ?_ | refine DivVC.mk (by omega) (by omega) ?_); try conv => whnf))))
    refine ⟨by rw [hdone []], ?_⟩
    ((try conv => whnf) <;> (repeat (first | exact True.intro | ((first | refine ⟨rfl, ?_⟩ | refine ar (by omega) (by omega) ?_ | refine ar8 (by omega) (by omega) ?_ | refine ix (by omega) ?_ | refine IdxVC.mk 0 rfl (by omega) ?_ | refine BytesVC.mk _ rfl ?_ | refine DivVC.mk (by omega) (by omega) ?_); try conv => whnf))))
  · rintro ⟨⟨k, P1, zs, cap, L', done⟩, hin⟩ -
    have hw : WIn p L k zs L' done T.length := hin
    have hLl : L'.length = p := by rw [hw.set, setP_length, hL]
    have hdl : done.length = p := by rw [hw.done]; simp
    have hz20 : zs.length ≤ 20 := by have := hw.len; have := hw.k1; omega
    ((try conv => whnf) <;> (repeat (first | exact True.intro | ((first | refine ⟨rfl, ?_⟩ | refine ar (by omega) (by omega) ?_ | refine ar8 (by omega) (by omega) ?_ | refine ix (by omega) ?_ | refine IdxVC.mk 0 rfl (by omega) ?_ | refine BytesVC.mk _ rfl ?_ | refine DivVC.mk (by omega) (by omega) ?_); try conv => whnf))))
    refine brd (fun hlt => ?_) (fun hge => ?_)
    · have hlt : k < T.length := by have h : (k : Int) < ((T.map pgEnc).length : Int) := hlt; omega
      ((try conv => whnf) <;> (repeat (first | exact True.intro | ((first | refine ⟨rfl, ?_⟩ | refine ar (by omega) (by omega) ?_ | refine ar8 (by omega) (by omega) ?_ | refine ix (by omega) ?_ | refine IdxVC.mk 0 rfl (by omega) ?_ | refine BytesVC.mk _ rfl ?_ | refine DivVC.mk (by omega) (by omega) ?_); try conv => whnf))))
      refine brd (fun hlt2 => ?_) (fun hge => ?_)
      · have hlt2 : k < 20 := by omega
        ((try conv => whnf) <;> (repeat (first | exact True.intro | ((first | refine ⟨rfl, ?_⟩ | refine ar (by omega) (by omega) ?_ | refine ar8 (by omega) (by omega) ?_ | refine ix (by omega) ?_ | refine IdxVC.mk 0 rfl (by omega) ?_ | refine BytesVC.mk _ rfl ?_ | refine DivVC.mk (by omega) (by omega) ?_); try conv => whnf))))
        refine ⟨show 0 < 3 by omega, ?_⟩
        refine ix (show k < (T.map pgEnc).length by omega) ?_
        ((try conv => whnf) <;> (repeat (first | exact True.intro | ((first | refine ⟨rfl, ?_⟩ | refine ar (by omega) (by omega) ?_ | refine ar8 (by omega) (by omega) ?_ | refine ix (by omega) ?_ | refine IdxVC.mk 0 rfl (by omega) ?_ | refine BytesVC.mk _ rfl ?_ | refine DivVC.mk (by omega) (by omega) ?_); try conv => whnf))))
        obtain ⟨x, hx⟩ : ∃ x, T[k] = x := ⟨_, rfl⟩
        obtain ⟨nu, f, cut⟩ := x
        have hnu := hT _ (List.getElem_mem hlt)
        rw [hx] at hnu
        refine .mk (pgEnc (nu, f, cut)) (by show (T.map pgEnc)[k]? = _; rw [List.getElem?_map, List.getElem?_eq_getElem hlt, hx]; rfl) ?_
        ((try conv => whnf) <;> (repeat (first | exact True.intro | ((first | refine ⟨rfl, ?_⟩ | refine ar (by omega) (by omega) ?_ | refine ar8 (by omega) (by omega) ?_ | refine ix (by omega) ?_ | refine IdxVC.mk 0 rfl (by omega) ?_ | refine BytesVC.mk _ rfl ?_ | refine DivVC.mk (by omega) (by omega) ?_); try conv => whnf))))
        obtain ⟨q, hq⟩ : ∃ q : Nat, nu % (p : Int) = q := ⟨(nu % (p : Int)).toNat, by have := Int.emod_nonneg nu (show (p : Int) ≠ 0 by omega); omega⟩
        have hqp : q < p := by have := Int.emod_lt_of_pos nu (show (0 : Int) < p by omega); omega
        have hpk := pick_con P1 nu (p : Int) (by omega) (by omega) hnu.1 hnu.2
        rw [hq] at hpk
        refine call_con (N := []) hpk ?_
        ((try conv => whnf) <;> (repeat (first | exact True.intro | ((first | refine ⟨rfl, ?_⟩ | refine ar (by omega) (by omega) ?_ | refine ar8 (by omega) (by omega) ?_ | refine ix (by omega) ?_ | refine IdxVC.mk 0 rfl (by omega) ?_ | refine BytesVC.mk _ rfl ?_ | refine DivVC.mk (by omega) (by omega) ?_); try conv => whnf))))
        rintro x P2 H' - ⟨rfl, rfl, rfl⟩
        ((try conv => whnf) <;> (repeat (first | exact True.intro | ((first | refine ⟨rfl, ?_⟩ | refine ar (by omega) (by omega) ?_ | refine ar8 (by omega) (by omega) ?_ | refine ix (by omega) ?_ | refine IdxVC.mk 0 rfl (by omega) ?_ | refine BytesVC.mk _ rfl ?_ | refine DivVC.mk (by omega) (by omega) ?_); try conv => whnf))))
        have hdq : q < done.length := by omega
        refine .mk (done[q]) (by show done[0 + q]? = _; rw [Nat.zero_add]; exact List.getElem?_eq_getElem hdq) ?_
        ((try conv => whnf) <;> (repeat (first | exact True.intro | ((first | refine ⟨rfl, ?_⟩ | refine ar (by omega) (by omega) ?_ | refine ar8 (by omega) (by omega) ?_ | refine ix (by omega) ?_ | refine IdxVC.mk 0 rfl (by omega) ?_ | refine BytesVC.mk _ rfl ?_ | refine DivVC.mk (by omega) (by omega) ?_); try conv => whnf))))
        have hdv : done[q] = decide (q ∈ zs.map (·.1.1)) := by
          have e : done[q]? = some (decide (q ∈ zs.map (·.1.1))) := by rw [hw.done, List.getElem?_map, List.getElem?_range hqp]; rfl
          rw [List.getElem?_eq_getElem hdq] at e
          exact Option.some.inj e
        refine br (fun hd => ?_) (fun hd => ?_)
        · ((try conv => whnf) <;> (repeat (first | exact True.intro | ((first | refine ⟨rfl, ?_⟩ | refine ar (by omega) (by omega) ?_ | refine ar8 (by omega) (by omega) ?_ | refine ix (by omega) ?_ | refine IdxVC.mk 0 rfl (by omega) ?_ | refine BytesVC.mk _ rfl ?_ | refine DivVC.mk (by omega) (by omega) ?_); try conv => whnf))))
          refine ⟨⟨⟨k + 1, P2, zs, cap, L', done⟩, ⟨hw.nodup, hw.fit, by show zs.length ≤ k + 1; have := hw.len; omega, hw.set, by show k + 1 ≤ 20; omega, by show k + 1 ≤ T.length; omega, hw.done⟩⟩, show T.length - (k + 1) < T.length - k by omega, ?_⟩
          ((try conv => whnf) <;> (repeat (first | exact True.intro | ((first | refine ⟨rfl, ?_⟩ | refine ar (by omega) (by omega) ?_ | refine ar8 (by omega) (by omega) ?_ | refine ix (by omega) ?_ | refine IdxVC.mk 0 rfl (by omega) ?_ | refine BytesVC.mk _ rfl ?_ | refine DivVC.mk (by omega) (by omega) ?_); try conv => whnf))))
        · have hnq : q ∉ zs.map (·.1.1) := by rw [hdv] at hd; simpa using hd
          ((set_option smartUnfolding false in conv => whnf) <;> (repeat (first | exact True.intro | ((first | refine ⟨rfl, ?_⟩ | refine ar (by omega) (by omega) ?_ | refine ar8 (by omega) (by omega) ?_ | refine ix (by omega) ?_ | refine IdxVC.mk 0 rfl (by omega) ?_ | refine BytesVC.mk _ rfl ?_ | refine DivVC.mk (by omega) (by omega) ?_); set_option smartUnfolding false in conv => whnf))))
          refine .mk _ true (by show done[0 + q]? = _; rw [Nat.zero_add]; exact List.getElem?_eq_getElem hdq) rfl (Nat.le_refl _) ?_
          ((set_option smartUnfolding false in conv => whnf) <;> (repeat (first | exact True.intro | ((first | refine ⟨rfl, ?_⟩ | refine ar (by omega) (by omega) ?_ | refine ar8 (by omega) (by omega) ?_ | refine ix (by omega) ?_ | refine IdxVC.mk 0 rfl (by omega) ?_ | refine BytesVC.mk _ rfl ?_ | refine DivVC.mk (by omega) (by omega) ?_); set_option smartUnfolding false in conv => whnf))))
          refine call_con (N := []) (bytes_con P2 (q : Int) f (by omega) (by omega)) ?_
          ((set_option smartUnfolding false in conv => whnf) <;> (repeat (first | exact True.intro | ((first | refine ⟨rfl, ?_⟩ | refine ar (by omega) (by omega) ?_ | refine ar8 (by omega) (by omega) ?_ | refine ix (by omega) ?_ | refine IdxVC.mk 0 rfl (by omega) ?_ | refine BytesVC.mk _ rfl ?_ | refine DivVC.mk (by omega) (by omega) ?_); set_option smartUnfolding false in conv => whnf))))
          rintro x P3 H' hP3 ⟨ba, bc, b, rfl, hb, rfl⟩
          ((set_option smartUnfolding false in conv => whnf) <;> (repeat (first | exact True.intro | ((first | refine ⟨rfl, ?_⟩ | refine ar (by omega) (by omega) ?_ | refine ar8 (by omega) (by omega) ?_ | refine ix (by omega) ?_ | refine IdxVC.mk 0 rfl (by omega) ?_ | refine BytesVC.mk _ rfl ?_ | refine DivVC.mk (by omega) (by omega) ?_); set_option smartUnfolding false in conv => whnf))))
          refine .mk (L'[q]'(by omega)) b (by show L'[0 + q]? = _; rw [Nat.zero_add]; exact List.getElem?_eq_getElem (by omega)) rfl (Nat.le_refl _) ?_
          ((set_option smartUnfolding false in conv => whnf) <;> (repeat (first | exact True.intro | ((first | refine ⟨rfl, ?_⟩ | refine ar (by omega) (by omega) ?_ | refine ar8 (by omega) (by omega) ?_ | refine ix (by omega) ?_ | refine IdxVC.mk 0 rfl (by omega) ?_ | refine BytesVC.mk _ rfl ?_ | refine DivVC.mk (by omega) (by omega) ?_); set_option smartUnfolding false in conv => whnf))))
          refine .mk (by show 0 + 1 ≤ 1; omega) ?_
          ((set_option smartUnfolding false in conv => whnf) <;> (repeat (first | exact True.intro | ((first | refine ⟨rfl, ?_⟩ | refine ar (by omega) (by omega) ?_ | refine ar8 (by omega) (by omega) ?_ | refine ix (by omega) ?_ | refine IdxVC.mk 0 rfl (by omega) ?_ | refine BytesVC.mk _ rfl ?_ | refine DivVC.mk (by omega) (by omega) ?_); set_option smartUnfolding false in conv => whnf))))
          refine .mk [((q : Int), ba, bc, b)] rfl ?_
          ((set_option smartUnfolding false in conv => whnf) <;> (repeat (first | exact True.intro | ((first | refine ⟨rfl, ?_⟩ | refine ar (by omega) (by omega) ?_ | refine ar8 (by omega) (by omega) ?_ | refine ix (by omega) ?_ | refine IdxVC.mk 0 rfl (by omega) ?_ | refine BytesVC.mk _ rfl ?_ | refine DivVC.mk (by omega) (by omega) ?_); set_option smartUnfolding false in conv => whnf))))
          have hzl : (zs.map toJ).length = zs.length := List.length_map ..
          refine .mk rfl (by show zs.length = (zs.map toJ).length; omega) rfl ?_
          ((set_option smartUnfolding false in conv => whnf) <;> (repeat (first | exact True.intro | ((first | refine ⟨rfl, ?_⟩ | refine ar (by omega) (by omega) ?_ | refine ar8 (by omega) (by omega) ?_ | refine ix (by omega) ?_ | refine IdxVC.mk 0 rfl (by omega) ?_ | refine BytesVC.mk _ rfl ?_ | refine DivVC.mk (by omega) (by omega) ?_); set_option smartUnfolding false in conv => whnf))))
          refine ap (by show ((zs.map toJ).length + 1) * 32 ≤ _; omega) (by show (zs.map toJ).length + 1 ≤ _; omega) (fun cap2 _ _ => ?_)
          ((set_option smartUnfolding false in conv => whnf) <;> (repeat (first | exact True.intro | ((first | refine ⟨rfl, ?_⟩ | refine ar (by omega) (by omega) ?_ | refine ar8 (by omega) (by omega) ?_ | refine ix (by omega) ?_ | refine IdxVC.mk 0 rfl (by omega) ?_ | refine BytesVC.mk _ rfl ?_ | refine DivVC.mk (by omega) (by omega) ?_); set_option smartUnfolding false in conv => whnf))))
          refine ⟨⟨⟨k + 1, P3, zs ++ [((q, b), (ba, bc))], cap2, L'.set q b, done.set q true⟩, ?_⟩, show T.length - (k + 1) < T.length - k by omega, ?_⟩
          · refine ⟨?_, ?_, ?_, ?_, by show k + 1 ≤ 20; omega, by show k + 1 ≤ T.length; omega, ?_⟩
            · show ((zs ++ [((q, b), (ba, bc))]).map (·.1.1)).Nodup
              rw [List.map_append, List.nodup_append]
              refine ⟨hw.nodup, by simp, fun x hx y hy => ?_⟩
              simp only [List.map_cons, List.map_nil, List.mem_singleton] at hy
              subst hy
              exact fun e => hnq (e ▸ hx)
            · intro z hz
              rcases List.mem_append.1 hz with hz | hz
              · exact hw.fit z hz
              · simp only [List.mem_singleton] at hz
                subst hz
                exact ⟨hqp, hb⟩
            · show (zs ++ [((q, b), (ba, bc))]).length ≤ k + 1
              rw [List.length_append]
              have := hw.len
              simp only [List.length_cons, List.length_nil]
              omega
            · show L'.set q b = setP L ((zs ++ [((q, b), (ba, bc))]).map (·.1))
              rw [List.map_append, List.map_cons, List.map_nil, setP_snoc, ← hw.set]
            · show done.set q true = (List.range p).map fun i => decide (i ∈ (zs ++ [((q, b), (ba, bc))]).map (·.1.1))
              rw [hw.done]
              apply List.ext_getElem
              · simp
              · intro i h1 h2
                rw [List.getElem_set]
                by_cases h : q = i
                · subst h; simp
                · have h' : ¬ i = q := fun e => h e.symm
                  simp [h, h']
          · ((set_option smartUnfolding false in conv => whnf) <;> (repeat (first | exact True.intro | ((first | refine ⟨rfl, ?_⟩ | refine ar (by omega) (by omega) ?_ | refine ar8 (by omega) (by omega) ?_ | refine ix (by omega) ?_ | refine IdxVC.mk 0 rfl (by omega) ?_ | refine BytesVC.mk _ rfl ?_ | refine DivVC.mk (by omega) (by omega) ?_); set_option smartUnfolding false in conv => whnf))))
            refine ⟨by show SV.sl 306 2 0 (zs.map toJ ++ [((q : Int), ba, bc, b)]).length cap2 = _; rw [List.length_append, List.length_append, hzl]; rfl, ?_⟩
            ((set_option smartUnfolding false in conv => whnf) <;> (repeat (first | exact True.intro | ((first | refine ⟨rfl, ?_⟩ | refine ar (by omega) (by omega) ?_ | refine ar8 (by omega) (by omega) ?_ | refine ix (by omega) ?_ | refine IdxVC.mk 0 rfl (by omega) ?_ | refine BytesVC.mk _ rfl ?_ | refine DivVC.mk (by omega) (by omega) ?_); set_option smartUnfolding false in conv => whnf))))
            refine ⟨by show Ck.row _ _ _ (bools (List.set done (0 + q) true)) = _; rw [Nat.zero_add], ?_⟩
            ((set_option smartUnfolding false in conv => whnf) <;> (repeat (first | exact True.intro | ((first | refine ⟨rfl, ?_⟩ | refine ar (by omega) (by omega) ?_ | refine ar8 (by omega) (by omega) ?_ | refine ix (by omega) ?_ | refine IdxVC.mk 0 rfl (by omega) ?_ | refine BytesVC.mk _ rfl ?_ | refine DivVC.mk (by omega) (by omega) ?_); set_option smartUnfolding false in conv => whnf))))
            refine ⟨by show Ck.row _ _ _ (strsC (List.set L' (0 + q) b)) = _; rw [Nat.zero_add], ?_⟩
            ((set_option smartUnfolding false in conv => whnf) <;> (repeat (first | exact True.intro | ((first | refine ⟨rfl, ?_⟩ | refine ar (by omega) (by omega) ?_ | refine ar8 (by omega) (by omega) ?_ | refine ix (by omega) ?_ | refine IdxVC.mk 0 rfl (by omega) ?_ | refine BytesVC.mk _ rfl ?_ | refine DivVC.mk (by omega) (by omega) ?_); set_option smartUnfolding false in conv => whnf))))
            refine ⟨by show Ck.row _ _ _ (pwJ (zs.map toJ ++ [((q : Int), ba, bc, b)])) = Ck.row _ _ _ (pwJ ((zs ++ [((q, b), (ba, bc))]).map toJ)); rw [List.map_append]; rfl, ?_⟩
            ((set_option smartUnfolding false in conv => whnf) <;> (repeat (first | exact True.intro | ((first | refine ⟨rfl, ?_⟩ | refine ar (by omega) (by omega) ?_ | refine ar8 (by omega) (by omega) ?_ | refine ix (by omega) ?_ | refine IdxVC.mk 0 rfl (by omega) ?_ | refine BytesVC.mk _ rfl ?_ | refine DivVC.mk (by omega) (by omega) ?_); set_option smartUnfolding false in conv => whnf))))
      · ((try conv => whnf) <;> (repeat (first | exact True.intro | ((first | refine ⟨rfl, ?_⟩ | refine ar (by omega) (by omega) ?_ | refine ar8 (by omega) (by omega) ?_ | refine ix (by omega) ?_ | refine IdxVC.mk 0 rfl (by omega) ?_ | refine BytesVC.mk _ rfl ?_ | refine DivVC.mk (by omega) (by omega) ?_); try conv => whnf))))
        refine ⟨[.row 306 52 cap (pwC zs), rowC 17 ca L', rmC 302 300 301 p more 303 pc, rowC 303 pc L], ?_⟩
        ((try conv => whnf) <;> (repeat (first | exact True.intro | ((first | refine ⟨rfl, ?_⟩ | refine ar (by omega) (by omega) ?_ | refine ar8 (by omega) (by omega) ?_ | refine ix (by omega) ?_ | refine IdxVC.mk 0 rfl (by omega) ?_ | refine BytesVC.mk _ rfl ?_ | refine DivVC.mk (by omega) (by omega) ?_); try conv => whnf))))
        exact ⟨zs, L', cap, ca, ⟨hw.nodup, hw.fit, hz20, hw.set⟩, rfl, rfl⟩
    · ((try conv => whnf) <;> (repeat (first | exact True.intro | ((first | refine ⟨rfl, ?_⟩ | refine ar (by omega) (by omega) ?_ | refine ar8 (by omega) (by omega) ?_ | refine ix (by omega) ?_ | refine IdxVC.mk 0 rfl (by omega) ?_ | refine BytesVC.mk _ rfl ?_ | refine DivVC.mk (by omega) (by omega) ?_); try conv => whnf))))
      refine ⟨[.row 306 52 cap (pwC zs), rowC 17 ca L', rmC 302 300 301 p more 303 pc, rowC 303 pc L], ?_⟩
      ((try conv => whnf) <;> (repeat (first | exact True.intro | ((first | refine ⟨rfl, ?_⟩ | refine ar (by omega) (by omega) ?_ | refine ar8 (by omega) (by omega) ?_ | refine ix (by omega) ?_ | refine IdxVC.mk 0 rfl (by omega) ?_ | refine BytesVC.mk _ rfl ?_ | refine DivVC.mk (by omega) (by omega) ?_); try conv => whnf))))
      exact ⟨zs, L', cap, ca, ⟨hw.nodup, hw.fit, hz20, hw.set⟩, rfl, rfl⟩
end Go.Proofs.YtpaebopmppbjbaaGreatDoor

/- lethelaw09's plays, where no disk falls, by the engine. -/
set_option linter.unusedVariables false
set_option linter.unusedSimpArgs false
namespace Go.Proofs.YtpaebopmppbjbaaGreatDoor
open Go Go.RowKit Go.Le Go.Eng
theorem askedFrom_ok (p : Nat) : ∀ (zs : List Pz) (k : Nat) (s : List Nat), (zs.map (·.1.1)).Nodup → (∀ z ∈ zs, z.1.1 < p ∧ z.1.2.length = 1024) → (∀ z ∈ zs, z.1.1 ∉ s) → askedFrom p k s (zs.map fun z => ((z.1.1 : Int), z.1.2.length)) = (0, 0)
  | [], k, s, _, _, _ => rfl
  | z :: r, k, s, hn, hf, hs => by
    rw [List.map_cons, List.nodup_cons] at hn
    have h1 := hf z (by simp)
    have h2 := hs z (by simp)
    rw [List.map_cons]
    show (if ((z.1.1 : Int)) < 0 ∨ (p : Int) ≤ (z.1.1 : Int) then _ else if z.1.2.length ≠ 1024 then _ else if (z.1.1 : Int).toNat ∈ s then _ else _) = _
    rw [if_neg (by omega), if_neg (by simp [h1.2]), if_neg (by simpa using h2)]
    refine askedFrom_ok p r (k + 1) _ hn.2 (fun y hy => hf y (by simp [hy])) fun y hy => ?_
    rw [List.mem_cons, not_or]
    refine ⟨fun e => hn.1 ?_, hs y (by simp [hy])⟩
    have : (z.1.1 : Int).toNat = z.1.1 := by omega
    rw [this] at e
    rw [← e]
    exact List.mem_map_of_mem hy
/-- the turn's words -/
abbrev turnV (ta : Option Addr) (tc : Nat) (T : List Pg0) (cr : Bool) (fa : Option Addr) (fc : Nat) (F : List Fl) (an : Bool) : SV := .agg [.rs ta tc (pagesC T), .raw (.bool cr), .rs fa fc (fallsC F), .raw (.bool an)]
theorem WOk.pages {p : Nat} {L L' : List (List UInt8)} {zs : List Pz} (h : WOk p L zs L') (hL : Pages p L) : Pages p L' := by
  rw [h.set]
  exact hL.set fun x hx => by
    obtain ⟨z, hz, rfl⟩ := List.mem_map.1 hx
    exact h.fit z hz
theorem WOk.lt {p : Nat} {L L' : List (List UInt8)} {zs : List Pz} (h : WOk p L zs L') (hp : p ≤ 250) : ∀ z ∈ zs, z.1.1 < 1000 := fun z hz => by have := (h.fit z hz).1; omega
theorem WOk.perm {p : Nat} {L L' : List (List UInt8)} {zs : List Pz} (h : WOk p L zs L') (hp : p ≤ 250) : ((sorted zs (h.lt hp)).map (·.1)).Perm (zs.map (·.1)) := (sorted_perm zs (h.lt hp)).map _
theorem WOk.fit' {p : Nat} {L L' : List (List UInt8)} {zs : List Pz} (h : WOk p L zs L') : ∀ x ∈ zs.map (·.1), x.1 < p ∧ x.2.length = 1024 := fun x hx => by
  obtain ⟨z, hz, rfl⟩ := List.mem_map.1 hx
  exact h.fit z hz
theorem WOk.nodup' {p : Nat} {L L' : List (List UInt8)} {zs : List Pz} (h : WOk p L zs L') : ((zs.map (·.1)).map (·.1)).Nodup := by rw [List.map_map]; exact h.nodup
theorem rm_stands {D : Dev} {n p : Nat} {L : List (List UInt8)} (h : Rm D n p L) : decide (∀ k, k < p → L[k]? = some (L.getD k [])) = true := by
  rw [decide_eq_true_iff]
  intro k hk
  have : k < L.length := by rw [h.pages.len]; exact hk
  unfold List.getD
  rw [List.getElem?_eq_getElem this]; rfl
set_option maxRecDepth 100000 in
set_option maxHeartbeats 4000000 in
theorem playsQ_con (P : Hp) (n p more pc : Nat) (L : List (List UInt8)) (hp1 : 1 ≤ p) (hp : p ≤ 20) (hmo : more ≤ 3) (hn : n = 4 * p + 1 + more) (D : Dev) (hD : Rm D n p L) (h0 : D.armed = 0) (ta : Option Addr) (tc : Nat) (T : List Pg0) (hT : ∀ x ∈ T, -9223372036854775808 ≤ x.1 ∧ x.1 ≤ 9223372036854775807) (an : Bool) (fa : Option Addr) (fc : Nat) (F : List Fl) (cr : Bool) (hcr : cr = false ∨ F = []) :
    Con Tryz.prog [0, 300, 301, 302] 7 [.ptr 302 0, turnV ta tc T cr fa fc F an] P [rmC 302 300 301 p more 303 pc, rowC 303 pc L, lgC 301 300 p (.raw .nilIface), dC 300 D] fun x P' H' =>
      ∃ D' L' pc', Rm D' n p L' ∧ D'.armed = 0 ∧ x = .raw (.bool true) ∧ H' = [rmC 302 300 301 p more 303 pc', rowC 303 pc' L', lgC 301 300 p (.raw .nilIface), dC 300 D'] := by
  refine Con.ren (Con.sub (con_of_fun T_good (by kernel_rfl) Tryz.call7 Tryz.func7 (by kernel_rfl) (by show 2 ≤ _; decide +kernel) ?_))
  ((set_option smartUnfolding false in conv => whnf) <;> (repeat (first | exact True.intro | ((first | refine ⟨rfl, ?_⟩ | refine ar (by omega) (by omega) ?_ | refine ar8 (by omega) (by omega) ?_ | refine ix (by omega) ?_ | refine IdxVC.mk 0 rfl (by omega) ?_ | refine BytesVC.mk _ rfl ?_ | refine DivVC.mk (by omega) (by omega) ?_); set_option smartUnfolding false in conv => whnf))))
  refine call_con (N := [306, 17]) (wanted_con P p more pc L hD.pages.len hp1 hp ta tc T hT cr an fa fc F) ?_
  ((set_option smartUnfolding false in conv => whnf) <;> (repeat (first | exact True.intro | ((first | refine ⟨rfl, ?_⟩ | refine ar (by omega) (by omega) ?_ | refine ar8 (by omega) (by omega) ?_ | refine ix (by omega) ?_ | refine IdxVC.mk 0 rfl (by omega) ?_ | refine BytesVC.mk _ rfl ?_ | refine DivVC.mk (by omega) (by omega) ?_); set_option smartUnfolding false in conv => whnf))))
  rintro x P1 H' - ⟨zs, L', co, ca, hw, rfl, rfl⟩
  rcases hcr with rfl | hF
  · ((set_option smartUnfolding false in conv => whnf) <;> (repeat (first | exact True.intro | ((first | refine ⟨rfl, ?_⟩ | refine ar (by omega) (by omega) ?_ | refine ar8 (by omega) (by omega) ?_ | refine ix (by omega) ?_ | refine IdxVC.mk 0 rfl (by omega) ?_ | refine BytesVC.mk _ rfl ?_ | refine DivVC.mk (by omega) (by omega) ?_); set_option smartUnfolding false in conv => whnf))))
    by_cases hz : zs = []
    · subst hz
      have hD2 : Rm D n p L' := by rw [hw.set]; exact hD
      obtain ⟨D2, hDD⟩ : ∃ D2, D2 = D := ⟨_, rfl⟩
      rw [← hDD] at hD2
      rw [← hDD]
      refine call_con (N := []) (CommitNo_con _ p co (by omega)) ?_
      ((set_option smartUnfolding false in conv => whnf) <;> (repeat (first | exact True.intro | ((first | refine ⟨rfl, ?_⟩ | refine ar (by omega) (by omega) ?_ | refine ar8 (by omega) (by omega) ?_ | refine ix (by omega) ?_ | refine IdxVC.mk 0 rfl (by omega) ?_ | refine BytesVC.mk _ rfl ?_ | refine DivVC.mk (by omega) (by omega) ?_); set_option smartUnfolding false in conv => whnf))))
      rintro x P2 H' - ⟨rfl, rfl, rfl⟩
      ((set_option smartUnfolding false in conv => whnf) <;> (repeat (first | exact True.intro | ((first | refine ⟨rfl, ?_⟩ | refine ar (by omega) (by omega) ?_ | refine ar8 (by omega) (by omega) ?_ | refine ix (by omega) ?_ | refine IdxVC.mk 0 rfl (by omega) ?_ | refine BytesVC.mk _ rfl ?_ | refine DivVC.mk (by omega) (by omega) ?_); set_option smartUnfolding false in conv => whnf))))
      refine bxd (fun hf => ?_) (fun hf => ?_)
      · ((set_option smartUnfolding false in conv => whnf) <;> (repeat (first | exact True.intro | ((first | refine ⟨rfl, ?_⟩ | refine ar (by omega) (by omega) ?_ | refine ar8 (by omega) (by omega) ?_ | refine ix (by omega) ?_ | refine IdxVC.mk 0 rfl (by omega) ?_ | refine BytesVC.mk _ rfl ?_ | refine DivVC.mk (by omega) (by omega) ?_); set_option smartUnfolding false in conv => whnf))))
        refine .mk 1 (F.map flEnc).length rfl rfl (by have h : (0 : Int) < ((F.map flEnc).length : Int) := hf; omega) (Nat.le_refl _) ?_
        ((set_option smartUnfolding false in conv => whnf) <;> (repeat (first | exact True.intro | ((first | refine ⟨rfl, ?_⟩ | refine ar (by omega) (by omega) ?_ | refine ar8 (by omega) (by omega) ?_ | refine ix (by omega) ?_ | refine IdxVC.mk 0 rfl (by omega) ?_ | refine BytesVC.mk _ rfl ?_ | refine DivVC.mk (by omega) (by omega) ?_); set_option smartUnfolding false in conv => whnf))))
        refine call_con (N := []) (Arm0_con _ D2 0 (by omega) (by omega)) ?_
        ((set_option smartUnfolding false in conv => whnf) <;> (repeat (first | exact True.intro | ((first | refine ⟨rfl, ?_⟩ | refine ar (by omega) (by omega) ?_ | refine ar8 (by omega) (by omega) ?_ | refine ix (by omega) ?_ | refine IdxVC.mk 0 rfl (by omega) ?_ | refine BytesVC.mk _ rfl ?_ | refine DivVC.mk (by omega) (by omega) ?_); set_option smartUnfolding false in conv => whnf))))
        have hrm : Rm (D2.arm 0 loss0).1 n p L' := by rw [(hD2.live.armd 0 loss0 (by omega) (by omega) ⟨by simp [loss0], by simp [loss0], by simp [loss0]⟩).1]; exact hD2.armd 0 loss0 (by omega) (by omega) ⟨by simp [loss0], by simp [loss0], by simp [loss0]⟩
        have h00 : (D2.arm 0 loss0).1.armed = 0 := by rw [(hD2.live.armd 0 loss0 (by omega) (by omega) ⟨by simp [loss0], by simp [loss0], by simp [loss0]⟩).1]
        obtain ⟨D3, hD3⟩ : ∃ D3, D3 = (D2.arm 0 loss0).1 := ⟨_, rfl⟩
        rw [← hD3] at hrm h00
        rw [← hD3]
        rintro x P3 H' - ⟨rfl, rfl, rfl⟩
        ((set_option smartUnfolding false in conv => whnf) <;> (repeat (first | exact True.intro | ((first | refine ⟨rfl, ?_⟩ | refine ar (by omega) (by omega) ?_ | refine ar8 (by omega) (by omega) ?_ | refine ix (by omega) ?_ | refine IdxVC.mk 0 rfl (by omega) ?_ | refine BytesVC.mk _ rfl ?_ | refine DivVC.mk (by omega) (by omega) ?_); set_option smartUnfolding false in conv => whnf))))
        refine call_con (N := []) (clean_con _ p more ca L' hrm.pages.len hrm.pages.each hp hmo D3 hrm.pend (hrm.img hn)) ?_
        ((set_option smartUnfolding false in conv => whnf) <;> (repeat (first | exact True.intro | ((first | refine ⟨rfl, ?_⟩ | refine ar (by omega) (by omega) ?_ | refine ar8 (by omega) (by omega) ?_ | refine ix (by omega) ?_ | refine IdxVC.mk 0 rfl (by omega) ?_ | refine BytesVC.mk _ rfl ?_ | refine DivVC.mk (by omega) (by omega) ?_); set_option smartUnfolding false in conv => whnf))))
        rintro x P4 H' - ⟨rfl, rfl, rfl⟩
        ((set_option smartUnfolding false in conv => whnf) <;> (repeat (first | exact True.intro | ((first | refine ⟨rfl, ?_⟩ | refine ar (by omega) (by omega) ?_ | refine ar8 (by omega) (by omega) ?_ | refine ix (by omega) ?_ | refine IdxVC.mk 0 rfl (by omega) ?_ | refine BytesVC.mk _ rfl ?_ | refine DivVC.mk (by omega) (by omega) ?_); set_option smartUnfolding false in conv => whnf))))
        refine call_con (N := []) (stands_con _ p more ca ca L' hrm.pages.len hp D3 hrm.pend (fun k => L'.getD k []) (fun k hk => hrm.page (by omega) hk)) ?_
        ((set_option smartUnfolding false in conv => whnf) <;> (repeat (first | exact True.intro | ((first | refine ⟨rfl, ?_⟩ | refine ar (by omega) (by omega) ?_ | refine ar8 (by omega) (by omega) ?_ | refine ix (by omega) ?_ | refine IdxVC.mk 0 rfl (by omega) ?_ | refine BytesVC.mk _ rfl ?_ | refine DivVC.mk (by omega) (by omega) ?_); set_option smartUnfolding false in conv => whnf))))
        rintro x P5 H' - ⟨rfl, rfl, rfl⟩
        rw [rm_stands hrm]
        ((set_option smartUnfolding false in conv => whnf) <;> (repeat (first | exact True.intro | ((first | refine ⟨rfl, ?_⟩ | refine ar (by omega) (by omega) ?_ | refine ar8 (by omega) (by omega) ?_ | refine ix (by omega) ?_ | refine IdxVC.mk 0 rfl (by omega) ?_ | refine BytesVC.mk _ rfl ?_ | refine DivVC.mk (by omega) (by omega) ?_); set_option smartUnfolding false in conv => whnf))))
        refine ⟨[rmC 302 300 301 p more 100020 ca, rowC 100020 ca L', lgC 301 300 p (.raw .nilIface), dC 300 D3], ?_⟩
        ((set_option smartUnfolding false in conv => whnf) <;> (repeat (first | exact True.intro | ((first | refine ⟨rfl, ?_⟩ | refine ar (by omega) (by omega) ?_ | refine ar8 (by omega) (by omega) ?_ | refine ix (by omega) ?_ | refine IdxVC.mk 0 rfl (by omega) ?_ | refine BytesVC.mk _ rfl ?_ | refine DivVC.mk (by omega) (by omega) ?_); set_option smartUnfolding false in conv => whnf))))
        refine ⟨[(302, 302), (300, 300), (301, 301), (100020, 303)], rfl, rfl, ?_⟩
        ((set_option smartUnfolding false in conv => whnf) <;> (repeat (first | exact True.intro | ((first | refine ⟨rfl, ?_⟩ | refine ar (by omega) (by omega) ?_ | refine ar8 (by omega) (by omega) ?_ | refine ix (by omega) ?_ | refine IdxVC.mk 0 rfl (by omega) ?_ | refine BytesVC.mk _ rfl ?_ | refine DivVC.mk (by omega) (by omega) ?_); set_option smartUnfolding false in conv => whnf))))
        exact ⟨D3, L', ca, hrm, h00, rfl, rfl⟩
      · ((set_option smartUnfolding false in conv => whnf) <;> (repeat (first | exact True.intro | ((first | refine ⟨rfl, ?_⟩ | refine ar (by omega) (by omega) ?_ | refine ar8 (by omega) (by omega) ?_ | refine ix (by omega) ?_ | refine IdxVC.mk 0 rfl (by omega) ?_ | refine BytesVC.mk _ rfl ?_ | refine DivVC.mk (by omega) (by omega) ?_); set_option smartUnfolding false in conv => whnf))))
        refine call_con (N := []) (Arm0_con _ D2 0 (by omega) (by omega)) ?_
        ((set_option smartUnfolding false in conv => whnf) <;> (repeat (first | exact True.intro | ((first | refine ⟨rfl, ?_⟩ | refine ar (by omega) (by omega) ?_ | refine ar8 (by omega) (by omega) ?_ | refine ix (by omega) ?_ | refine IdxVC.mk 0 rfl (by omega) ?_ | refine BytesVC.mk _ rfl ?_ | refine DivVC.mk (by omega) (by omega) ?_); set_option smartUnfolding false in conv => whnf))))
        have hrm : Rm (D2.arm 0 loss0).1 n p L' := by rw [(hD2.live.armd 0 loss0 (by omega) (by omega) ⟨by simp [loss0], by simp [loss0], by simp [loss0]⟩).1]; exact hD2.armd 0 loss0 (by omega) (by omega) ⟨by simp [loss0], by simp [loss0], by simp [loss0]⟩
        have h00 : (D2.arm 0 loss0).1.armed = 0 := by rw [(hD2.live.armd 0 loss0 (by omega) (by omega) ⟨by simp [loss0], by simp [loss0], by simp [loss0]⟩).1]
        obtain ⟨D3, hD3⟩ : ∃ D3, D3 = (D2.arm 0 loss0).1 := ⟨_, rfl⟩
        rw [← hD3] at hrm h00
        rw [← hD3]
        rintro x P3 H' - ⟨rfl, rfl, rfl⟩
        ((set_option smartUnfolding false in conv => whnf) <;> (repeat (first | exact True.intro | ((first | refine ⟨rfl, ?_⟩ | refine ar (by omega) (by omega) ?_ | refine ar8 (by omega) (by omega) ?_ | refine ix (by omega) ?_ | refine IdxVC.mk 0 rfl (by omega) ?_ | refine BytesVC.mk _ rfl ?_ | refine DivVC.mk (by omega) (by omega) ?_); set_option smartUnfolding false in conv => whnf))))
        refine call_con (N := []) (clean_con _ p more ca L' hrm.pages.len hrm.pages.each hp hmo D3 hrm.pend (hrm.img hn)) ?_
        ((set_option smartUnfolding false in conv => whnf) <;> (repeat (first | exact True.intro | ((first | refine ⟨rfl, ?_⟩ | refine ar (by omega) (by omega) ?_ | refine ar8 (by omega) (by omega) ?_ | refine ix (by omega) ?_ | refine IdxVC.mk 0 rfl (by omega) ?_ | refine BytesVC.mk _ rfl ?_ | refine DivVC.mk (by omega) (by omega) ?_); set_option smartUnfolding false in conv => whnf))))
        rintro x P4 H' - ⟨rfl, rfl, rfl⟩
        ((set_option smartUnfolding false in conv => whnf) <;> (repeat (first | exact True.intro | ((first | refine ⟨rfl, ?_⟩ | refine ar (by omega) (by omega) ?_ | refine ar8 (by omega) (by omega) ?_ | refine ix (by omega) ?_ | refine IdxVC.mk 0 rfl (by omega) ?_ | refine BytesVC.mk _ rfl ?_ | refine DivVC.mk (by omega) (by omega) ?_); set_option smartUnfolding false in conv => whnf))))
        refine call_con (N := []) (stands_con _ p more ca ca L' hrm.pages.len hp D3 hrm.pend (fun k => L'.getD k []) (fun k hk => hrm.page (by omega) hk)) ?_
        ((set_option smartUnfolding false in conv => whnf) <;> (repeat (first | exact True.intro | ((first | refine ⟨rfl, ?_⟩ | refine ar (by omega) (by omega) ?_ | refine ar8 (by omega) (by omega) ?_ | refine ix (by omega) ?_ | refine IdxVC.mk 0 rfl (by omega) ?_ | refine BytesVC.mk _ rfl ?_ | refine DivVC.mk (by omega) (by omega) ?_); set_option smartUnfolding false in conv => whnf))))
        rintro x P5 H' - ⟨rfl, rfl, rfl⟩
        rw [rm_stands hrm]
        ((set_option smartUnfolding false in conv => whnf) <;> (repeat (first | exact True.intro | ((first | refine ⟨rfl, ?_⟩ | refine ar (by omega) (by omega) ?_ | refine ar8 (by omega) (by omega) ?_ | refine ix (by omega) ?_ | refine IdxVC.mk 0 rfl (by omega) ?_ | refine BytesVC.mk _ rfl ?_ | refine DivVC.mk (by omega) (by omega) ?_); set_option smartUnfolding false in conv => whnf))))
        refine ⟨[rmC 302 300 301 p more 100020 ca, rowC 100020 ca L', lgC 301 300 p (.raw .nilIface), dC 300 D3], ?_⟩
        ((set_option smartUnfolding false in conv => whnf) <;> (repeat (first | exact True.intro | ((first | refine ⟨rfl, ?_⟩ | refine ar (by omega) (by omega) ?_ | refine ar8 (by omega) (by omega) ?_ | refine ix (by omega) ?_ | refine IdxVC.mk 0 rfl (by omega) ?_ | refine BytesVC.mk _ rfl ?_ | refine DivVC.mk (by omega) (by omega) ?_); set_option smartUnfolding false in conv => whnf))))
        refine ⟨[(302, 302), (300, 300), (301, 301), (100020, 303)], rfl, rfl, ?_⟩
        ((set_option smartUnfolding false in conv => whnf) <;> (repeat (first | exact True.intro | ((first | refine ⟨rfl, ?_⟩ | refine ar (by omega) (by omega) ?_ | refine ar8 (by omega) (by omega) ?_ | refine ix (by omega) ?_ | refine IdxVC.mk 0 rfl (by omega) ?_ | refine BytesVC.mk _ rfl ?_ | refine DivVC.mk (by omega) (by omega) ?_); set_option smartUnfolding false in conv => whnf))))
        exact ⟨D3, L', ca, hrm, h00, rfl, rfl⟩
    · have hzl : 0 < zs.length := List.length_pos_iff.2 hz
      rcases hD.commit (by omega) (by omega) hw.fit' hw.nodup' (by simpa using hz) (hw.perm (by omega)) with ⟨D2, hio, -, hD2⟩ | ⟨D2, -, -, hbad, -⟩
      case inr => omega
      rw [← hw.set] at hD2
      refine call_con (N := []) (Commit_con _ p zs.length co D D2 zs (by rw [hD.pend]; simp) (by omega) rfl (by have := hw.len; omega) hzl (askedFrom_ok p zs 0 [] hw.nodup hw.fit (by simp)) hw.fit (hw.lt (by omega)) hio) ?_
      ((set_option smartUnfolding false in conv => whnf) <;> (repeat (first | exact True.intro | ((first | refine ⟨rfl, ?_⟩ | refine ar (by omega) (by omega) ?_ | refine ar8 (by omega) (by omega) ?_ | refine ix (by omega) ?_ | refine IdxVC.mk 0 rfl (by omega) ?_ | refine BytesVC.mk _ rfl ?_ | refine DivVC.mk (by omega) (by omega) ?_); set_option smartUnfolding false in conv => whnf))))
      rintro x P2 H' - ⟨rfl, rfl, rfl⟩
      ((set_option smartUnfolding false in conv => whnf) <;> (repeat (first | exact True.intro | ((first | refine ⟨rfl, ?_⟩ | refine ar (by omega) (by omega) ?_ | refine ar8 (by omega) (by omega) ?_ | refine ix (by omega) ?_ | refine IdxVC.mk 0 rfl (by omega) ?_ | refine BytesVC.mk _ rfl ?_ | refine DivVC.mk (by omega) (by omega) ?_); set_option smartUnfolding false in conv => whnf))))
      refine bxd (fun hf => ?_) (fun hf => ?_)
      · ((set_option smartUnfolding false in conv => whnf) <;> (repeat (first | exact True.intro | ((first | refine ⟨rfl, ?_⟩ | refine ar (by omega) (by omega) ?_ | refine ar8 (by omega) (by omega) ?_ | refine ix (by omega) ?_ | refine IdxVC.mk 0 rfl (by omega) ?_ | refine BytesVC.mk _ rfl ?_ | refine DivVC.mk (by omega) (by omega) ?_); set_option smartUnfolding false in conv => whnf))))
        refine .mk 1 (F.map flEnc).length rfl rfl (by have h : (0 : Int) < ((F.map flEnc).length : Int) := hf; omega) (Nat.le_refl _) ?_
        ((set_option smartUnfolding false in conv => whnf) <;> (repeat (first | exact True.intro | ((first | refine ⟨rfl, ?_⟩ | refine ar (by omega) (by omega) ?_ | refine ar8 (by omega) (by omega) ?_ | refine ix (by omega) ?_ | refine IdxVC.mk 0 rfl (by omega) ?_ | refine BytesVC.mk _ rfl ?_ | refine DivVC.mk (by omega) (by omega) ?_); set_option smartUnfolding false in conv => whnf))))
        refine bxd (fun h => absurd h (by omega)) (fun _ => ?_)
        ((set_option smartUnfolding false in conv => whnf) <;> (repeat (first | exact True.intro | ((first | refine ⟨rfl, ?_⟩ | refine ar (by omega) (by omega) ?_ | refine ar8 (by omega) (by omega) ?_ | refine ix (by omega) ?_ | refine IdxVC.mk 0 rfl (by omega) ?_ | refine BytesVC.mk _ rfl ?_ | refine DivVC.mk (by omega) (by omega) ?_); set_option smartUnfolding false in conv => whnf))))
        refine call_con (N := []) (Arm0_con _ D2 0 (by omega) (by omega)) ?_
        ((set_option smartUnfolding false in conv => whnf) <;> (repeat (first | exact True.intro | ((first | refine ⟨rfl, ?_⟩ | refine ar (by omega) (by omega) ?_ | refine ar8 (by omega) (by omega) ?_ | refine ix (by omega) ?_ | refine IdxVC.mk 0 rfl (by omega) ?_ | refine BytesVC.mk _ rfl ?_ | refine DivVC.mk (by omega) (by omega) ?_); set_option smartUnfolding false in conv => whnf))))
        have hrm : Rm (D2.arm 0 loss0).1 n p L' := by rw [(hD2.live.armd 0 loss0 (by omega) (by omega) ⟨by simp [loss0], by simp [loss0], by simp [loss0]⟩).1]; exact hD2.armd 0 loss0 (by omega) (by omega) ⟨by simp [loss0], by simp [loss0], by simp [loss0]⟩
        have h00 : (D2.arm 0 loss0).1.armed = 0 := by rw [(hD2.live.armd 0 loss0 (by omega) (by omega) ⟨by simp [loss0], by simp [loss0], by simp [loss0]⟩).1]
        obtain ⟨D3, hD3⟩ : ∃ D3, D3 = (D2.arm 0 loss0).1 := ⟨_, rfl⟩
        rw [← hD3] at hrm h00
        rw [← hD3]
        rintro x P3 H' - ⟨rfl, rfl, rfl⟩
        ((set_option smartUnfolding false in conv => whnf) <;> (repeat (first | exact True.intro | ((first | refine ⟨rfl, ?_⟩ | refine ar (by omega) (by omega) ?_ | refine ar8 (by omega) (by omega) ?_ | refine ix (by omega) ?_ | refine IdxVC.mk 0 rfl (by omega) ?_ | refine BytesVC.mk _ rfl ?_ | refine DivVC.mk (by omega) (by omega) ?_); set_option smartUnfolding false in conv => whnf))))
        refine call_con (N := []) (clean_con _ p more ca L' hrm.pages.len hrm.pages.each hp hmo D3 hrm.pend (hrm.img hn)) ?_
        ((set_option smartUnfolding false in conv => whnf) <;> (repeat (first | exact True.intro | ((first | refine ⟨rfl, ?_⟩ | refine ar (by omega) (by omega) ?_ | refine ar8 (by omega) (by omega) ?_ | refine ix (by omega) ?_ | refine IdxVC.mk 0 rfl (by omega) ?_ | refine BytesVC.mk _ rfl ?_ | refine DivVC.mk (by omega) (by omega) ?_); set_option smartUnfolding false in conv => whnf))))
        rintro x P4 H' - ⟨rfl, rfl, rfl⟩
        ((set_option smartUnfolding false in conv => whnf) <;> (repeat (first | exact True.intro | ((first | refine ⟨rfl, ?_⟩ | refine ar (by omega) (by omega) ?_ | refine ar8 (by omega) (by omega) ?_ | refine ix (by omega) ?_ | refine IdxVC.mk 0 rfl (by omega) ?_ | refine BytesVC.mk _ rfl ?_ | refine DivVC.mk (by omega) (by omega) ?_); set_option smartUnfolding false in conv => whnf))))
        refine call_con (N := []) (stands_con _ p more ca ca L' hrm.pages.len hp D3 hrm.pend (fun k => L'.getD k []) (fun k hk => hrm.page (by omega) hk)) ?_
        ((set_option smartUnfolding false in conv => whnf) <;> (repeat (first | exact True.intro | ((first | refine ⟨rfl, ?_⟩ | refine ar (by omega) (by omega) ?_ | refine ar8 (by omega) (by omega) ?_ | refine ix (by omega) ?_ | refine IdxVC.mk 0 rfl (by omega) ?_ | refine BytesVC.mk _ rfl ?_ | refine DivVC.mk (by omega) (by omega) ?_); set_option smartUnfolding false in conv => whnf))))
        rintro x P5 H' - ⟨rfl, rfl, rfl⟩
        rw [rm_stands hrm]
        ((set_option smartUnfolding false in conv => whnf) <;> (repeat (first | exact True.intro | ((first | refine ⟨rfl, ?_⟩ | refine ar (by omega) (by omega) ?_ | refine ar8 (by omega) (by omega) ?_ | refine ix (by omega) ?_ | refine IdxVC.mk 0 rfl (by omega) ?_ | refine BytesVC.mk _ rfl ?_ | refine DivVC.mk (by omega) (by omega) ?_); set_option smartUnfolding false in conv => whnf))))
        refine ⟨[rmC 302 300 301 p more 100020 ca, rowC 100020 ca L', lgC 301 300 p (.raw .nilIface), dC 300 D3], ?_⟩
        ((set_option smartUnfolding false in conv => whnf) <;> (repeat (first | exact True.intro | ((first | refine ⟨rfl, ?_⟩ | refine ar (by omega) (by omega) ?_ | refine ar8 (by omega) (by omega) ?_ | refine ix (by omega) ?_ | refine IdxVC.mk 0 rfl (by omega) ?_ | refine BytesVC.mk _ rfl ?_ | refine DivVC.mk (by omega) (by omega) ?_); set_option smartUnfolding false in conv => whnf))))
        refine ⟨[(302, 302), (300, 300), (301, 301), (100020, 303)], rfl, rfl, ?_⟩
        ((set_option smartUnfolding false in conv => whnf) <;> (repeat (first | exact True.intro | ((first | refine ⟨rfl, ?_⟩ | refine ar (by omega) (by omega) ?_ | refine ar8 (by omega) (by omega) ?_ | refine ix (by omega) ?_ | refine IdxVC.mk 0 rfl (by omega) ?_ | refine BytesVC.mk _ rfl ?_ | refine DivVC.mk (by omega) (by omega) ?_); set_option smartUnfolding false in conv => whnf))))
        exact ⟨D3, L', ca, hrm, h00, rfl, rfl⟩
      · ((set_option smartUnfolding false in conv => whnf) <;> (repeat (first | exact True.intro | ((first | refine ⟨rfl, ?_⟩ | refine ar (by omega) (by omega) ?_ | refine ar8 (by omega) (by omega) ?_ | refine ix (by omega) ?_ | refine IdxVC.mk 0 rfl (by omega) ?_ | refine BytesVC.mk _ rfl ?_ | refine DivVC.mk (by omega) (by omega) ?_); set_option smartUnfolding false in conv => whnf))))
        refine bxd (fun h => absurd h (by omega)) (fun _ => ?_)
        ((set_option smartUnfolding false in conv => whnf) <;> (repeat (first | exact True.intro | ((first | refine ⟨rfl, ?_⟩ | refine ar (by omega) (by omega) ?_ | refine ar8 (by omega) (by omega) ?_ | refine ix (by omega) ?_ | refine IdxVC.mk 0 rfl (by omega) ?_ | refine BytesVC.mk _ rfl ?_ | refine DivVC.mk (by omega) (by omega) ?_); set_option smartUnfolding false in conv => whnf))))
        refine call_con (N := []) (Arm0_con _ D2 0 (by omega) (by omega)) ?_
        ((set_option smartUnfolding false in conv => whnf) <;> (repeat (first | exact True.intro | ((first | refine ⟨rfl, ?_⟩ | refine ar (by omega) (by omega) ?_ | refine ar8 (by omega) (by omega) ?_ | refine ix (by omega) ?_ | refine IdxVC.mk 0 rfl (by omega) ?_ | refine BytesVC.mk _ rfl ?_ | refine DivVC.mk (by omega) (by omega) ?_); set_option smartUnfolding false in conv => whnf))))
        have hrm : Rm (D2.arm 0 loss0).1 n p L' := by rw [(hD2.live.armd 0 loss0 (by omega) (by omega) ⟨by simp [loss0], by simp [loss0], by simp [loss0]⟩).1]; exact hD2.armd 0 loss0 (by omega) (by omega) ⟨by simp [loss0], by simp [loss0], by simp [loss0]⟩
        have h00 : (D2.arm 0 loss0).1.armed = 0 := by rw [(hD2.live.armd 0 loss0 (by omega) (by omega) ⟨by simp [loss0], by simp [loss0], by simp [loss0]⟩).1]
        obtain ⟨D3, hD3⟩ : ∃ D3, D3 = (D2.arm 0 loss0).1 := ⟨_, rfl⟩
        rw [← hD3] at hrm h00
        rw [← hD3]
        rintro x P3 H' - ⟨rfl, rfl, rfl⟩
        ((set_option smartUnfolding false in conv => whnf) <;> (repeat (first | exact True.intro | ((first | refine ⟨rfl, ?_⟩ | refine ar (by omega) (by omega) ?_ | refine ar8 (by omega) (by omega) ?_ | refine ix (by omega) ?_ | refine IdxVC.mk 0 rfl (by omega) ?_ | refine BytesVC.mk _ rfl ?_ | refine DivVC.mk (by omega) (by omega) ?_); set_option smartUnfolding false in conv => whnf))))
        refine call_con (N := []) (clean_con _ p more ca L' hrm.pages.len hrm.pages.each hp hmo D3 hrm.pend (hrm.img hn)) ?_
        ((set_option smartUnfolding false in conv => whnf) <;> (repeat (first | exact True.intro | ((first | refine ⟨rfl, ?_⟩ | refine ar (by omega) (by omega) ?_ | refine ar8 (by omega) (by omega) ?_ | refine ix (by omega) ?_ | refine IdxVC.mk 0 rfl (by omega) ?_ | refine BytesVC.mk _ rfl ?_ | refine DivVC.mk (by omega) (by omega) ?_); set_option smartUnfolding false in conv => whnf))))
        rintro x P4 H' - ⟨rfl, rfl, rfl⟩
        ((set_option smartUnfolding false in conv => whnf) <;> (repeat (first | exact True.intro | ((first | refine ⟨rfl, ?_⟩ | refine ar (by omega) (by omega) ?_ | refine ar8 (by omega) (by omega) ?_ | refine ix (by omega) ?_ | refine IdxVC.mk 0 rfl (by omega) ?_ | refine BytesVC.mk _ rfl ?_ | refine DivVC.mk (by omega) (by omega) ?_); set_option smartUnfolding false in conv => whnf))))
        refine call_con (N := []) (stands_con _ p more ca ca L' hrm.pages.len hp D3 hrm.pend (fun k => L'.getD k []) (fun k hk => hrm.page (by omega) hk)) ?_
        ((set_option smartUnfolding false in conv => whnf) <;> (repeat (first | exact True.intro | ((first | refine ⟨rfl, ?_⟩ | refine ar (by omega) (by omega) ?_ | refine ar8 (by omega) (by omega) ?_ | refine ix (by omega) ?_ | refine IdxVC.mk 0 rfl (by omega) ?_ | refine BytesVC.mk _ rfl ?_ | refine DivVC.mk (by omega) (by omega) ?_); set_option smartUnfolding false in conv => whnf))))
        rintro x P5 H' - ⟨rfl, rfl, rfl⟩
        rw [rm_stands hrm]
        ((set_option smartUnfolding false in conv => whnf) <;> (repeat (first | exact True.intro | ((first | refine ⟨rfl, ?_⟩ | refine ar (by omega) (by omega) ?_ | refine ar8 (by omega) (by omega) ?_ | refine ix (by omega) ?_ | refine IdxVC.mk 0 rfl (by omega) ?_ | refine BytesVC.mk _ rfl ?_ | refine DivVC.mk (by omega) (by omega) ?_); set_option smartUnfolding false in conv => whnf))))
        refine ⟨[rmC 302 300 301 p more 100020 ca, rowC 100020 ca L', lgC 301 300 p (.raw .nilIface), dC 300 D3], ?_⟩
        ((set_option smartUnfolding false in conv => whnf) <;> (repeat (first | exact True.intro | ((first | refine ⟨rfl, ?_⟩ | refine ar (by omega) (by omega) ?_ | refine ar8 (by omega) (by omega) ?_ | refine ix (by omega) ?_ | refine IdxVC.mk 0 rfl (by omega) ?_ | refine BytesVC.mk _ rfl ?_ | refine DivVC.mk (by omega) (by omega) ?_); set_option smartUnfolding false in conv => whnf))))
        refine ⟨[(302, 302), (300, 300), (301, 301), (100020, 303)], rfl, rfl, ?_⟩
        ((set_option smartUnfolding false in conv => whnf) <;> (repeat (first | exact True.intro | ((first | refine ⟨rfl, ?_⟩ | refine ar (by omega) (by omega) ?_ | refine ar8 (by omega) (by omega) ?_ | refine ix (by omega) ?_ | refine IdxVC.mk 0 rfl (by omega) ?_ | refine BytesVC.mk _ rfl ?_ | refine DivVC.mk (by omega) (by omega) ?_); set_option smartUnfolding false in conv => whnf))))
        exact ⟨D3, L', ca, hrm, h00, rfl, rfl⟩
  · cases cr with
    | false =>
      ((set_option smartUnfolding false in conv => whnf) <;> (repeat (first | exact True.intro | ((first | refine ⟨rfl, ?_⟩ | refine ar (by omega) (by omega) ?_ | refine ar8 (by omega) (by omega) ?_ | refine ix (by omega) ?_ | refine IdxVC.mk 0 rfl (by omega) ?_ | refine BytesVC.mk _ rfl ?_ | refine DivVC.mk (by omega) (by omega) ?_); set_option smartUnfolding false in conv => whnf))))
      by_cases hz : zs = []
      · subst hz
        have hD2 : Rm D n p L' := by rw [hw.set]; exact hD
        obtain ⟨D2, hDD⟩ : ∃ D2, D2 = D := ⟨_, rfl⟩
        rw [← hDD] at hD2
        rw [← hDD]
        refine call_con (N := []) (CommitNo_con _ p co (by omega)) ?_
        ((set_option smartUnfolding false in conv => whnf) <;> (repeat (first | exact True.intro | ((first | refine ⟨rfl, ?_⟩ | refine ar (by omega) (by omega) ?_ | refine ar8 (by omega) (by omega) ?_ | refine ix (by omega) ?_ | refine IdxVC.mk 0 rfl (by omega) ?_ | refine BytesVC.mk _ rfl ?_ | refine DivVC.mk (by omega) (by omega) ?_); set_option smartUnfolding false in conv => whnf))))
        rintro x P2 H' - ⟨rfl, rfl, rfl⟩
        ((set_option smartUnfolding false in conv => whnf) <;> (repeat (first | exact True.intro | ((first | refine ⟨rfl, ?_⟩ | refine ar (by omega) (by omega) ?_ | refine ar8 (by omega) (by omega) ?_ | refine ix (by omega) ?_ | refine IdxVC.mk 0 rfl (by omega) ?_ | refine BytesVC.mk _ rfl ?_ | refine DivVC.mk (by omega) (by omega) ?_); set_option smartUnfolding false in conv => whnf))))
        refine bxd (fun hf => ?_) (fun hf => ?_)
        · ((set_option smartUnfolding false in conv => whnf) <;> (repeat (first | exact True.intro | ((first | refine ⟨rfl, ?_⟩ | refine ar (by omega) (by omega) ?_ | refine ar8 (by omega) (by omega) ?_ | refine ix (by omega) ?_ | refine IdxVC.mk 0 rfl (by omega) ?_ | refine BytesVC.mk _ rfl ?_ | refine DivVC.mk (by omega) (by omega) ?_); set_option smartUnfolding false in conv => whnf))))
          refine .mk 1 (F.map flEnc).length rfl rfl (by have h : (0 : Int) < ((F.map flEnc).length : Int) := hf; omega) (Nat.le_refl _) ?_
          ((set_option smartUnfolding false in conv => whnf) <;> (repeat (first | exact True.intro | ((first | refine ⟨rfl, ?_⟩ | refine ar (by omega) (by omega) ?_ | refine ar8 (by omega) (by omega) ?_ | refine ix (by omega) ?_ | refine IdxVC.mk 0 rfl (by omega) ?_ | refine BytesVC.mk _ rfl ?_ | refine DivVC.mk (by omega) (by omega) ?_); set_option smartUnfolding false in conv => whnf))))
          refine call_con (N := []) (Arm0_con _ D2 0 (by omega) (by omega)) ?_
          ((set_option smartUnfolding false in conv => whnf) <;> (repeat (first | exact True.intro | ((first | refine ⟨rfl, ?_⟩ | refine ar (by omega) (by omega) ?_ | refine ar8 (by omega) (by omega) ?_ | refine ix (by omega) ?_ | refine IdxVC.mk 0 rfl (by omega) ?_ | refine BytesVC.mk _ rfl ?_ | refine DivVC.mk (by omega) (by omega) ?_); set_option smartUnfolding false in conv => whnf))))
          have hrm : Rm (D2.arm 0 loss0).1 n p L' := by rw [(hD2.live.armd 0 loss0 (by omega) (by omega) ⟨by simp [loss0], by simp [loss0], by simp [loss0]⟩).1]; exact hD2.armd 0 loss0 (by omega) (by omega) ⟨by simp [loss0], by simp [loss0], by simp [loss0]⟩
          have h00 : (D2.arm 0 loss0).1.armed = 0 := by rw [(hD2.live.armd 0 loss0 (by omega) (by omega) ⟨by simp [loss0], by simp [loss0], by simp [loss0]⟩).1]
          obtain ⟨D3, hD3⟩ : ∃ D3, D3 = (D2.arm 0 loss0).1 := ⟨_, rfl⟩
          rw [← hD3] at hrm h00
          rw [← hD3]
          rintro x P3 H' - ⟨rfl, rfl, rfl⟩
          ((set_option smartUnfolding false in conv => whnf) <;> (repeat (first | exact True.intro | ((first | refine ⟨rfl, ?_⟩ | refine ar (by omega) (by omega) ?_ | refine ar8 (by omega) (by omega) ?_ | refine ix (by omega) ?_ | refine IdxVC.mk 0 rfl (by omega) ?_ | refine BytesVC.mk _ rfl ?_ | refine DivVC.mk (by omega) (by omega) ?_); set_option smartUnfolding false in conv => whnf))))
          refine call_con (N := []) (clean_con _ p more ca L' hrm.pages.len hrm.pages.each hp hmo D3 hrm.pend (hrm.img hn)) ?_
          ((set_option smartUnfolding false in conv => whnf) <;> (repeat (first | exact True.intro | ((first | refine ⟨rfl, ?_⟩ | refine ar (by omega) (by omega) ?_ | refine ar8 (by omega) (by omega) ?_ | refine ix (by omega) ?_ | refine IdxVC.mk 0 rfl (by omega) ?_ | refine BytesVC.mk _ rfl ?_ | refine DivVC.mk (by omega) (by omega) ?_); set_option smartUnfolding false in conv => whnf))))
          rintro x P4 H' - ⟨rfl, rfl, rfl⟩
          ((set_option smartUnfolding false in conv => whnf) <;> (repeat (first | exact True.intro | ((first | refine ⟨rfl, ?_⟩ | refine ar (by omega) (by omega) ?_ | refine ar8 (by omega) (by omega) ?_ | refine ix (by omega) ?_ | refine IdxVC.mk 0 rfl (by omega) ?_ | refine BytesVC.mk _ rfl ?_ | refine DivVC.mk (by omega) (by omega) ?_); set_option smartUnfolding false in conv => whnf))))
          refine call_con (N := []) (stands_con _ p more ca ca L' hrm.pages.len hp D3 hrm.pend (fun k => L'.getD k []) (fun k hk => hrm.page (by omega) hk)) ?_
          ((set_option smartUnfolding false in conv => whnf) <;> (repeat (first | exact True.intro | ((first | refine ⟨rfl, ?_⟩ | refine ar (by omega) (by omega) ?_ | refine ar8 (by omega) (by omega) ?_ | refine ix (by omega) ?_ | refine IdxVC.mk 0 rfl (by omega) ?_ | refine BytesVC.mk _ rfl ?_ | refine DivVC.mk (by omega) (by omega) ?_); set_option smartUnfolding false in conv => whnf))))
          rintro x P5 H' - ⟨rfl, rfl, rfl⟩
          rw [rm_stands hrm]
          ((set_option smartUnfolding false in conv => whnf) <;> (repeat (first | exact True.intro | ((first | refine ⟨rfl, ?_⟩ | refine ar (by omega) (by omega) ?_ | refine ar8 (by omega) (by omega) ?_ | refine ix (by omega) ?_ | refine IdxVC.mk 0 rfl (by omega) ?_ | refine BytesVC.mk _ rfl ?_ | refine DivVC.mk (by omega) (by omega) ?_); set_option smartUnfolding false in conv => whnf))))
          refine ⟨[rmC 302 300 301 p more 100020 ca, rowC 100020 ca L', lgC 301 300 p (.raw .nilIface), dC 300 D3], ?_⟩
          ((set_option smartUnfolding false in conv => whnf) <;> (repeat (first | exact True.intro | ((first | refine ⟨rfl, ?_⟩ | refine ar (by omega) (by omega) ?_ | refine ar8 (by omega) (by omega) ?_ | refine ix (by omega) ?_ | refine IdxVC.mk 0 rfl (by omega) ?_ | refine BytesVC.mk _ rfl ?_ | refine DivVC.mk (by omega) (by omega) ?_); set_option smartUnfolding false in conv => whnf))))
          refine ⟨[(302, 302), (300, 300), (301, 301), (100020, 303)], rfl, rfl, ?_⟩
          ((set_option smartUnfolding false in conv => whnf) <;> (repeat (first | exact True.intro | ((first | refine ⟨rfl, ?_⟩ | refine ar (by omega) (by omega) ?_ | refine ar8 (by omega) (by omega) ?_ | refine ix (by omega) ?_ | refine IdxVC.mk 0 rfl (by omega) ?_ | refine BytesVC.mk _ rfl ?_ | refine DivVC.mk (by omega) (by omega) ?_); set_option smartUnfolding false in conv => whnf))))
          exact ⟨D3, L', ca, hrm, h00, rfl, rfl⟩
        · ((set_option smartUnfolding false in conv => whnf) <;> (repeat (first | exact True.intro | ((first | refine ⟨rfl, ?_⟩ | refine ar (by omega) (by omega) ?_ | refine ar8 (by omega) (by omega) ?_ | refine ix (by omega) ?_ | refine IdxVC.mk 0 rfl (by omega) ?_ | refine BytesVC.mk _ rfl ?_ | refine DivVC.mk (by omega) (by omega) ?_); set_option smartUnfolding false in conv => whnf))))
          refine call_con (N := []) (Arm0_con _ D2 0 (by omega) (by omega)) ?_
          ((set_option smartUnfolding false in conv => whnf) <;> (repeat (first | exact True.intro | ((first | refine ⟨rfl, ?_⟩ | refine ar (by omega) (by omega) ?_ | refine ar8 (by omega) (by omega) ?_ | refine ix (by omega) ?_ | refine IdxVC.mk 0 rfl (by omega) ?_ | refine BytesVC.mk _ rfl ?_ | refine DivVC.mk (by omega) (by omega) ?_); set_option smartUnfolding false in conv => whnf))))
          have hrm : Rm (D2.arm 0 loss0).1 n p L' := by rw [(hD2.live.armd 0 loss0 (by omega) (by omega) ⟨by simp [loss0], by simp [loss0], by simp [loss0]⟩).1]; exact hD2.armd 0 loss0 (by omega) (by omega) ⟨by simp [loss0], by simp [loss0], by simp [loss0]⟩
          have h00 : (D2.arm 0 loss0).1.armed = 0 := by rw [(hD2.live.armd 0 loss0 (by omega) (by omega) ⟨by simp [loss0], by simp [loss0], by simp [loss0]⟩).1]
          obtain ⟨D3, hD3⟩ : ∃ D3, D3 = (D2.arm 0 loss0).1 := ⟨_, rfl⟩
          rw [← hD3] at hrm h00
          rw [← hD3]
          rintro x P3 H' - ⟨rfl, rfl, rfl⟩
          ((set_option smartUnfolding false in conv => whnf) <;> (repeat (first | exact True.intro | ((first | refine ⟨rfl, ?_⟩ | refine ar (by omega) (by omega) ?_ | refine ar8 (by omega) (by omega) ?_ | refine ix (by omega) ?_ | refine IdxVC.mk 0 rfl (by omega) ?_ | refine BytesVC.mk _ rfl ?_ | refine DivVC.mk (by omega) (by omega) ?_); set_option smartUnfolding false in conv => whnf))))
          refine call_con (N := []) (clean_con _ p more ca L' hrm.pages.len hrm.pages.each hp hmo D3 hrm.pend (hrm.img hn)) ?_
          ((set_option smartUnfolding false in conv => whnf) <;> (repeat (first | exact True.intro | ((first | refine ⟨rfl, ?_⟩ | refine ar (by omega) (by omega) ?_ | refine ar8 (by omega) (by omega) ?_ | refine ix (by omega) ?_ | refine IdxVC.mk 0 rfl (by omega) ?_ | refine BytesVC.mk _ rfl ?_ | refine DivVC.mk (by omega) (by omega) ?_); set_option smartUnfolding false in conv => whnf))))
          rintro x P4 H' - ⟨rfl, rfl, rfl⟩
          ((set_option smartUnfolding false in conv => whnf) <;> (repeat (first | exact True.intro | ((first | refine ⟨rfl, ?_⟩ | refine ar (by omega) (by omega) ?_ | refine ar8 (by omega) (by omega) ?_ | refine ix (by omega) ?_ | refine IdxVC.mk 0 rfl (by omega) ?_ | refine BytesVC.mk _ rfl ?_ | refine DivVC.mk (by omega) (by omega) ?_); set_option smartUnfolding false in conv => whnf))))
          refine call_con (N := []) (stands_con _ p more ca ca L' hrm.pages.len hp D3 hrm.pend (fun k => L'.getD k []) (fun k hk => hrm.page (by omega) hk)) ?_
          ((set_option smartUnfolding false in conv => whnf) <;> (repeat (first | exact True.intro | ((first | refine ⟨rfl, ?_⟩ | refine ar (by omega) (by omega) ?_ | refine ar8 (by omega) (by omega) ?_ | refine ix (by omega) ?_ | refine IdxVC.mk 0 rfl (by omega) ?_ | refine BytesVC.mk _ rfl ?_ | refine DivVC.mk (by omega) (by omega) ?_); set_option smartUnfolding false in conv => whnf))))
          rintro x P5 H' - ⟨rfl, rfl, rfl⟩
          rw [rm_stands hrm]
          ((set_option smartUnfolding false in conv => whnf) <;> (repeat (first | exact True.intro | ((first | refine ⟨rfl, ?_⟩ | refine ar (by omega) (by omega) ?_ | refine ar8 (by omega) (by omega) ?_ | refine ix (by omega) ?_ | refine IdxVC.mk 0 rfl (by omega) ?_ | refine BytesVC.mk _ rfl ?_ | refine DivVC.mk (by omega) (by omega) ?_); set_option smartUnfolding false in conv => whnf))))
          refine ⟨[rmC 302 300 301 p more 100020 ca, rowC 100020 ca L', lgC 301 300 p (.raw .nilIface), dC 300 D3], ?_⟩
          ((set_option smartUnfolding false in conv => whnf) <;> (repeat (first | exact True.intro | ((first | refine ⟨rfl, ?_⟩ | refine ar (by omega) (by omega) ?_ | refine ar8 (by omega) (by omega) ?_ | refine ix (by omega) ?_ | refine IdxVC.mk 0 rfl (by omega) ?_ | refine BytesVC.mk _ rfl ?_ | refine DivVC.mk (by omega) (by omega) ?_); set_option smartUnfolding false in conv => whnf))))
          refine ⟨[(302, 302), (300, 300), (301, 301), (100020, 303)], rfl, rfl, ?_⟩
          ((set_option smartUnfolding false in conv => whnf) <;> (repeat (first | exact True.intro | ((first | refine ⟨rfl, ?_⟩ | refine ar (by omega) (by omega) ?_ | refine ar8 (by omega) (by omega) ?_ | refine ix (by omega) ?_ | refine IdxVC.mk 0 rfl (by omega) ?_ | refine BytesVC.mk _ rfl ?_ | refine DivVC.mk (by omega) (by omega) ?_); set_option smartUnfolding false in conv => whnf))))
          exact ⟨D3, L', ca, hrm, h00, rfl, rfl⟩
      · have hzl : 0 < zs.length := List.length_pos_iff.2 hz
        rcases hD.commit (by omega) (by omega) hw.fit' hw.nodup' (by simpa using hz) (hw.perm (by omega)) with ⟨D2, hio, -, hD2⟩ | ⟨D2, -, -, hbad, -⟩
        case inr => omega
        rw [← hw.set] at hD2
        refine call_con (N := []) (Commit_con _ p zs.length co D D2 zs (by rw [hD.pend]; simp) (by omega) rfl (by have := hw.len; omega) hzl (askedFrom_ok p zs 0 [] hw.nodup hw.fit (by simp)) hw.fit (hw.lt (by omega)) hio) ?_
        ((set_option smartUnfolding false in conv => whnf) <;> (repeat (first | exact True.intro | ((first | refine ⟨rfl, ?_⟩ | refine ar (by omega) (by omega) ?_ | refine ar8 (by omega) (by omega) ?_ | refine ix (by omega) ?_ | refine IdxVC.mk 0 rfl (by omega) ?_ | refine BytesVC.mk _ rfl ?_ | refine DivVC.mk (by omega) (by omega) ?_); set_option smartUnfolding false in conv => whnf))))
        rintro x P2 H' - ⟨rfl, rfl, rfl⟩
        ((set_option smartUnfolding false in conv => whnf) <;> (repeat (first | exact True.intro | ((first | refine ⟨rfl, ?_⟩ | refine ar (by omega) (by omega) ?_ | refine ar8 (by omega) (by omega) ?_ | refine ix (by omega) ?_ | refine IdxVC.mk 0 rfl (by omega) ?_ | refine BytesVC.mk _ rfl ?_ | refine DivVC.mk (by omega) (by omega) ?_); set_option smartUnfolding false in conv => whnf))))
        refine bxd (fun hf => ?_) (fun hf => ?_)
        · ((set_option smartUnfolding false in conv => whnf) <;> (repeat (first | exact True.intro | ((first | refine ⟨rfl, ?_⟩ | refine ar (by omega) (by omega) ?_ | refine ar8 (by omega) (by omega) ?_ | refine ix (by omega) ?_ | refine IdxVC.mk 0 rfl (by omega) ?_ | refine BytesVC.mk _ rfl ?_ | refine DivVC.mk (by omega) (by omega) ?_); set_option smartUnfolding false in conv => whnf))))
          refine .mk 1 (F.map flEnc).length rfl rfl (by have h : (0 : Int) < ((F.map flEnc).length : Int) := hf; omega) (Nat.le_refl _) ?_
          ((set_option smartUnfolding false in conv => whnf) <;> (repeat (first | exact True.intro | ((first | refine ⟨rfl, ?_⟩ | refine ar (by omega) (by omega) ?_ | refine ar8 (by omega) (by omega) ?_ | refine ix (by omega) ?_ | refine IdxVC.mk 0 rfl (by omega) ?_ | refine BytesVC.mk _ rfl ?_ | refine DivVC.mk (by omega) (by omega) ?_); set_option smartUnfolding false in conv => whnf))))
          refine bxd (fun h => absurd h (by omega)) (fun _ => ?_)
          ((set_option smartUnfolding false in conv => whnf) <;> (repeat (first | exact True.intro | ((first | refine ⟨rfl, ?_⟩ | refine ar (by omega) (by omega) ?_ | refine ar8 (by omega) (by omega) ?_ | refine ix (by omega) ?_ | refine IdxVC.mk 0 rfl (by omega) ?_ | refine BytesVC.mk _ rfl ?_ | refine DivVC.mk (by omega) (by omega) ?_); set_option smartUnfolding false in conv => whnf))))
          refine call_con (N := []) (Arm0_con _ D2 0 (by omega) (by omega)) ?_
          ((set_option smartUnfolding false in conv => whnf) <;> (repeat (first | exact True.intro | ((first | refine ⟨rfl, ?_⟩ | refine ar (by omega) (by omega) ?_ | refine ar8 (by omega) (by omega) ?_ | refine ix (by omega) ?_ | refine IdxVC.mk 0 rfl (by omega) ?_ | refine BytesVC.mk _ rfl ?_ | refine DivVC.mk (by omega) (by omega) ?_); set_option smartUnfolding false in conv => whnf))))
          have hrm : Rm (D2.arm 0 loss0).1 n p L' := by rw [(hD2.live.armd 0 loss0 (by omega) (by omega) ⟨by simp [loss0], by simp [loss0], by simp [loss0]⟩).1]; exact hD2.armd 0 loss0 (by omega) (by omega) ⟨by simp [loss0], by simp [loss0], by simp [loss0]⟩
          have h00 : (D2.arm 0 loss0).1.armed = 0 := by rw [(hD2.live.armd 0 loss0 (by omega) (by omega) ⟨by simp [loss0], by simp [loss0], by simp [loss0]⟩).1]
          obtain ⟨D3, hD3⟩ : ∃ D3, D3 = (D2.arm 0 loss0).1 := ⟨_, rfl⟩
          rw [← hD3] at hrm h00
          rw [← hD3]
          rintro x P3 H' - ⟨rfl, rfl, rfl⟩
          ((set_option smartUnfolding false in conv => whnf) <;> (repeat (first | exact True.intro | ((first | refine ⟨rfl, ?_⟩ | refine ar (by omega) (by omega) ?_ | refine ar8 (by omega) (by omega) ?_ | refine ix (by omega) ?_ | refine IdxVC.mk 0 rfl (by omega) ?_ | refine BytesVC.mk _ rfl ?_ | refine DivVC.mk (by omega) (by omega) ?_); set_option smartUnfolding false in conv => whnf))))
          refine call_con (N := []) (clean_con _ p more ca L' hrm.pages.len hrm.pages.each hp hmo D3 hrm.pend (hrm.img hn)) ?_
          ((set_option smartUnfolding false in conv => whnf) <;> (repeat (first | exact True.intro | ((first | refine ⟨rfl, ?_⟩ | refine ar (by omega) (by omega) ?_ | refine ar8 (by omega) (by omega) ?_ | refine ix (by omega) ?_ | refine IdxVC.mk 0 rfl (by omega) ?_ | refine BytesVC.mk _ rfl ?_ | refine DivVC.mk (by omega) (by omega) ?_); set_option smartUnfolding false in conv => whnf))))
          rintro x P4 H' - ⟨rfl, rfl, rfl⟩
          ((set_option smartUnfolding false in conv => whnf) <;> (repeat (first | exact True.intro | ((first | refine ⟨rfl, ?_⟩ | refine ar (by omega) (by omega) ?_ | refine ar8 (by omega) (by omega) ?_ | refine ix (by omega) ?_ | refine IdxVC.mk 0 rfl (by omega) ?_ | refine BytesVC.mk _ rfl ?_ | refine DivVC.mk (by omega) (by omega) ?_); set_option smartUnfolding false in conv => whnf))))
          refine call_con (N := []) (stands_con _ p more ca ca L' hrm.pages.len hp D3 hrm.pend (fun k => L'.getD k []) (fun k hk => hrm.page (by omega) hk)) ?_
          ((set_option smartUnfolding false in conv => whnf) <;> (repeat (first | exact True.intro | ((first | refine ⟨rfl, ?_⟩ | refine ar (by omega) (by omega) ?_ | refine ar8 (by omega) (by omega) ?_ | refine ix (by omega) ?_ | refine IdxVC.mk 0 rfl (by omega) ?_ | refine BytesVC.mk _ rfl ?_ | refine DivVC.mk (by omega) (by omega) ?_); set_option smartUnfolding false in conv => whnf))))
          rintro x P5 H' - ⟨rfl, rfl, rfl⟩
          rw [rm_stands hrm]
          ((set_option smartUnfolding false in conv => whnf) <;> (repeat (first | exact True.intro | ((first | refine ⟨rfl, ?_⟩ | refine ar (by omega) (by omega) ?_ | refine ar8 (by omega) (by omega) ?_ | refine ix (by omega) ?_ | refine IdxVC.mk 0 rfl (by omega) ?_ | refine BytesVC.mk _ rfl ?_ | refine DivVC.mk (by omega) (by omega) ?_); set_option smartUnfolding false in conv => whnf))))
          refine ⟨[rmC 302 300 301 p more 100020 ca, rowC 100020 ca L', lgC 301 300 p (.raw .nilIface), dC 300 D3], ?_⟩
          ((set_option smartUnfolding false in conv => whnf) <;> (repeat (first | exact True.intro | ((first | refine ⟨rfl, ?_⟩ | refine ar (by omega) (by omega) ?_ | refine ar8 (by omega) (by omega) ?_ | refine ix (by omega) ?_ | refine IdxVC.mk 0 rfl (by omega) ?_ | refine BytesVC.mk _ rfl ?_ | refine DivVC.mk (by omega) (by omega) ?_); set_option smartUnfolding false in conv => whnf))))
          refine ⟨[(302, 302), (300, 300), (301, 301), (100020, 303)], rfl, rfl, ?_⟩
          ((set_option smartUnfolding false in conv => whnf) <;> (repeat (first | exact True.intro | ((first | refine ⟨rfl, ?_⟩ | refine ar (by omega) (by omega) ?_ | refine ar8 (by omega) (by omega) ?_ | refine ix (by omega) ?_ | refine IdxVC.mk 0 rfl (by omega) ?_ | refine BytesVC.mk _ rfl ?_ | refine DivVC.mk (by omega) (by omega) ?_); set_option smartUnfolding false in conv => whnf))))
          exact ⟨D3, L', ca, hrm, h00, rfl, rfl⟩
        · ((set_option smartUnfolding false in conv => whnf) <;> (repeat (first | exact True.intro | ((first | refine ⟨rfl, ?_⟩ | refine ar (by omega) (by omega) ?_ | refine ar8 (by omega) (by omega) ?_ | refine ix (by omega) ?_ | refine IdxVC.mk 0 rfl (by omega) ?_ | refine BytesVC.mk _ rfl ?_ | refine DivVC.mk (by omega) (by omega) ?_); set_option smartUnfolding false in conv => whnf))))
          refine bxd (fun h => absurd h (by omega)) (fun _ => ?_)
          ((set_option smartUnfolding false in conv => whnf) <;> (repeat (first | exact True.intro | ((first | refine ⟨rfl, ?_⟩ | refine ar (by omega) (by omega) ?_ | refine ar8 (by omega) (by omega) ?_ | refine ix (by omega) ?_ | refine IdxVC.mk 0 rfl (by omega) ?_ | refine BytesVC.mk _ rfl ?_ | refine DivVC.mk (by omega) (by omega) ?_); set_option smartUnfolding false in conv => whnf))))
          refine call_con (N := []) (Arm0_con _ D2 0 (by omega) (by omega)) ?_
          ((set_option smartUnfolding false in conv => whnf) <;> (repeat (first | exact True.intro | ((first | refine ⟨rfl, ?_⟩ | refine ar (by omega) (by omega) ?_ | refine ar8 (by omega) (by omega) ?_ | refine ix (by omega) ?_ | refine IdxVC.mk 0 rfl (by omega) ?_ | refine BytesVC.mk _ rfl ?_ | refine DivVC.mk (by omega) (by omega) ?_); set_option smartUnfolding false in conv => whnf))))
          have hrm : Rm (D2.arm 0 loss0).1 n p L' := by rw [(hD2.live.armd 0 loss0 (by omega) (by omega) ⟨by simp [loss0], by simp [loss0], by simp [loss0]⟩).1]; exact hD2.armd 0 loss0 (by omega) (by omega) ⟨by simp [loss0], by simp [loss0], by simp [loss0]⟩
          have h00 : (D2.arm 0 loss0).1.armed = 0 := by rw [(hD2.live.armd 0 loss0 (by omega) (by omega) ⟨by simp [loss0], by simp [loss0], by simp [loss0]⟩).1]
          obtain ⟨D3, hD3⟩ : ∃ D3, D3 = (D2.arm 0 loss0).1 := ⟨_, rfl⟩
          rw [← hD3] at hrm h00
          rw [← hD3]
          rintro x P3 H' - ⟨rfl, rfl, rfl⟩
          ((set_option smartUnfolding false in conv => whnf) <;> (repeat (first | exact True.intro | ((first | refine ⟨rfl, ?_⟩ | refine ar (by omega) (by omega) ?_ | refine ar8 (by omega) (by omega) ?_ | refine ix (by omega) ?_ | refine IdxVC.mk 0 rfl (by omega) ?_ | refine BytesVC.mk _ rfl ?_ | refine DivVC.mk (by omega) (by omega) ?_); set_option smartUnfolding false in conv => whnf))))
          refine call_con (N := []) (clean_con _ p more ca L' hrm.pages.len hrm.pages.each hp hmo D3 hrm.pend (hrm.img hn)) ?_
          ((set_option smartUnfolding false in conv => whnf) <;> (repeat (first | exact True.intro | ((first | refine ⟨rfl, ?_⟩ | refine ar (by omega) (by omega) ?_ | refine ar8 (by omega) (by omega) ?_ | refine ix (by omega) ?_ | refine IdxVC.mk 0 rfl (by omega) ?_ | refine BytesVC.mk _ rfl ?_ | refine DivVC.mk (by omega) (by omega) ?_); set_option smartUnfolding false in conv => whnf))))
          rintro x P4 H' - ⟨rfl, rfl, rfl⟩
          ((set_option smartUnfolding false in conv => whnf) <;> (repeat (first | exact True.intro | ((first | refine ⟨rfl, ?_⟩ | refine ar (by omega) (by omega) ?_ | refine ar8 (by omega) (by omega) ?_ | refine ix (by omega) ?_ | refine IdxVC.mk 0 rfl (by omega) ?_ | refine BytesVC.mk _ rfl ?_ | refine DivVC.mk (by omega) (by omega) ?_); set_option smartUnfolding false in conv => whnf))))
          refine call_con (N := []) (stands_con _ p more ca ca L' hrm.pages.len hp D3 hrm.pend (fun k => L'.getD k []) (fun k hk => hrm.page (by omega) hk)) ?_
          ((set_option smartUnfolding false in conv => whnf) <;> (repeat (first | exact True.intro | ((first | refine ⟨rfl, ?_⟩ | refine ar (by omega) (by omega) ?_ | refine ar8 (by omega) (by omega) ?_ | refine ix (by omega) ?_ | refine IdxVC.mk 0 rfl (by omega) ?_ | refine BytesVC.mk _ rfl ?_ | refine DivVC.mk (by omega) (by omega) ?_); set_option smartUnfolding false in conv => whnf))))
          rintro x P5 H' - ⟨rfl, rfl, rfl⟩
          rw [rm_stands hrm]
          ((set_option smartUnfolding false in conv => whnf) <;> (repeat (first | exact True.intro | ((first | refine ⟨rfl, ?_⟩ | refine ar (by omega) (by omega) ?_ | refine ar8 (by omega) (by omega) ?_ | refine ix (by omega) ?_ | refine IdxVC.mk 0 rfl (by omega) ?_ | refine BytesVC.mk _ rfl ?_ | refine DivVC.mk (by omega) (by omega) ?_); set_option smartUnfolding false in conv => whnf))))
          refine ⟨[rmC 302 300 301 p more 100020 ca, rowC 100020 ca L', lgC 301 300 p (.raw .nilIface), dC 300 D3], ?_⟩
          ((set_option smartUnfolding false in conv => whnf) <;> (repeat (first | exact True.intro | ((first | refine ⟨rfl, ?_⟩ | refine ar (by omega) (by omega) ?_ | refine ar8 (by omega) (by omega) ?_ | refine ix (by omega) ?_ | refine IdxVC.mk 0 rfl (by omega) ?_ | refine BytesVC.mk _ rfl ?_ | refine DivVC.mk (by omega) (by omega) ?_); set_option smartUnfolding false in conv => whnf))))
          refine ⟨[(302, 302), (300, 300), (301, 301), (100020, 303)], rfl, rfl, ?_⟩
          ((set_option smartUnfolding false in conv => whnf) <;> (repeat (first | exact True.intro | ((first | refine ⟨rfl, ?_⟩ | refine ar (by omega) (by omega) ?_ | refine ar8 (by omega) (by omega) ?_ | refine ix (by omega) ?_ | refine IdxVC.mk 0 rfl (by omega) ?_ | refine BytesVC.mk _ rfl ?_ | refine DivVC.mk (by omega) (by omega) ?_); set_option smartUnfolding false in conv => whnf))))
          exact ⟨D3, L', ca, hrm, h00, rfl, rfl⟩
    | true =>
      ((set_option smartUnfolding false in conv => whnf) <;> (repeat (first | exact True.intro | ((first | refine ⟨rfl, ?_⟩ | refine ar (by omega) (by omega) ?_ | refine ar8 (by omega) (by omega) ?_ | refine ix (by omega) ?_ | refine IdxVC.mk 0 rfl (by omega) ?_ | refine BytesVC.mk _ rfl ?_ | refine DivVC.mk (by omega) (by omega) ?_); set_option smartUnfolding false in conv => whnf))))
      refine bxd (fun h => absurd h (by show ¬ (0 : Int) < ((F.map flEnc).length : Int); rw [hF]; simp)) (fun _ => ?_)
      ((set_option smartUnfolding false in conv => whnf) <;> (repeat (first | exact True.intro | ((first | refine ⟨rfl, ?_⟩ | refine ar (by omega) (by omega) ?_ | refine ar8 (by omega) (by omega) ?_ | refine ix (by omega) ?_ | refine IdxVC.mk 0 rfl (by omega) ?_ | refine BytesVC.mk _ rfl ?_ | refine DivVC.mk (by omega) (by omega) ?_); set_option smartUnfolding false in conv => whnf))))
      by_cases hz : zs = []
      · subst hz
        have hD2 : Rm D n p L' := by rw [hw.set]; exact hD
        obtain ⟨D2, hDD⟩ : ∃ D2, D2 = D := ⟨_, rfl⟩
        rw [← hDD] at hD2
        rw [← hDD]
        refine call_con (N := []) (CommitNo_con _ p co (by omega)) ?_
        ((set_option smartUnfolding false in conv => whnf) <;> (repeat (first | exact True.intro | ((first | refine ⟨rfl, ?_⟩ | refine ar (by omega) (by omega) ?_ | refine ar8 (by omega) (by omega) ?_ | refine ix (by omega) ?_ | refine IdxVC.mk 0 rfl (by omega) ?_ | refine BytesVC.mk _ rfl ?_ | refine DivVC.mk (by omega) (by omega) ?_); set_option smartUnfolding false in conv => whnf))))
        rintro x P2 H' - ⟨rfl, rfl, rfl⟩
        ((set_option smartUnfolding false in conv => whnf) <;> (repeat (first | exact True.intro | ((first | refine ⟨rfl, ?_⟩ | refine ar (by omega) (by omega) ?_ | refine ar8 (by omega) (by omega) ?_ | refine ix (by omega) ?_ | refine IdxVC.mk 0 rfl (by omega) ?_ | refine BytesVC.mk _ rfl ?_ | refine DivVC.mk (by omega) (by omega) ?_); set_option smartUnfolding false in conv => whnf))))
        refine bxd (fun hf => ?_) (fun hf => ?_)
        · ((set_option smartUnfolding false in conv => whnf) <;> (repeat (first | exact True.intro | ((first | refine ⟨rfl, ?_⟩ | refine ar (by omega) (by omega) ?_ | refine ar8 (by omega) (by omega) ?_ | refine ix (by omega) ?_ | refine IdxVC.mk 0 rfl (by omega) ?_ | refine BytesVC.mk _ rfl ?_ | refine DivVC.mk (by omega) (by omega) ?_); set_option smartUnfolding false in conv => whnf))))
          refine .mk 1 (F.map flEnc).length rfl rfl (by have h : (0 : Int) < ((F.map flEnc).length : Int) := hf; omega) (Nat.le_refl _) ?_
          ((set_option smartUnfolding false in conv => whnf) <;> (repeat (first | exact True.intro | ((first | refine ⟨rfl, ?_⟩ | refine ar (by omega) (by omega) ?_ | refine ar8 (by omega) (by omega) ?_ | refine ix (by omega) ?_ | refine IdxVC.mk 0 rfl (by omega) ?_ | refine BytesVC.mk _ rfl ?_ | refine DivVC.mk (by omega) (by omega) ?_); set_option smartUnfolding false in conv => whnf))))
          refine call_con (N := []) (Arm0_con _ D2 0 (by omega) (by omega)) ?_
          ((set_option smartUnfolding false in conv => whnf) <;> (repeat (first | exact True.intro | ((first | refine ⟨rfl, ?_⟩ | refine ar (by omega) (by omega) ?_ | refine ar8 (by omega) (by omega) ?_ | refine ix (by omega) ?_ | refine IdxVC.mk 0 rfl (by omega) ?_ | refine BytesVC.mk _ rfl ?_ | refine DivVC.mk (by omega) (by omega) ?_); set_option smartUnfolding false in conv => whnf))))
          have hrm : Rm (D2.arm 0 loss0).1 n p L' := by rw [(hD2.live.armd 0 loss0 (by omega) (by omega) ⟨by simp [loss0], by simp [loss0], by simp [loss0]⟩).1]; exact hD2.armd 0 loss0 (by omega) (by omega) ⟨by simp [loss0], by simp [loss0], by simp [loss0]⟩
          have h00 : (D2.arm 0 loss0).1.armed = 0 := by rw [(hD2.live.armd 0 loss0 (by omega) (by omega) ⟨by simp [loss0], by simp [loss0], by simp [loss0]⟩).1]
          obtain ⟨D3, hD3⟩ : ∃ D3, D3 = (D2.arm 0 loss0).1 := ⟨_, rfl⟩
          rw [← hD3] at hrm h00
          rw [← hD3]
          rintro x P3 H' - ⟨rfl, rfl, rfl⟩
          ((set_option smartUnfolding false in conv => whnf) <;> (repeat (first | exact True.intro | ((first | refine ⟨rfl, ?_⟩ | refine ar (by omega) (by omega) ?_ | refine ar8 (by omega) (by omega) ?_ | refine ix (by omega) ?_ | refine IdxVC.mk 0 rfl (by omega) ?_ | refine BytesVC.mk _ rfl ?_ | refine DivVC.mk (by omega) (by omega) ?_); set_option smartUnfolding false in conv => whnf))))
          refine call_con (N := []) (clean_con _ p more ca L' hrm.pages.len hrm.pages.each hp hmo D3 hrm.pend (hrm.img hn)) ?_
          ((set_option smartUnfolding false in conv => whnf) <;> (repeat (first | exact True.intro | ((first | refine ⟨rfl, ?_⟩ | refine ar (by omega) (by omega) ?_ | refine ar8 (by omega) (by omega) ?_ | refine ix (by omega) ?_ | refine IdxVC.mk 0 rfl (by omega) ?_ | refine BytesVC.mk _ rfl ?_ | refine DivVC.mk (by omega) (by omega) ?_); set_option smartUnfolding false in conv => whnf))))
          rintro x P4 H' - ⟨rfl, rfl, rfl⟩
          ((set_option smartUnfolding false in conv => whnf) <;> (repeat (first | exact True.intro | ((first | refine ⟨rfl, ?_⟩ | refine ar (by omega) (by omega) ?_ | refine ar8 (by omega) (by omega) ?_ | refine ix (by omega) ?_ | refine IdxVC.mk 0 rfl (by omega) ?_ | refine BytesVC.mk _ rfl ?_ | refine DivVC.mk (by omega) (by omega) ?_); set_option smartUnfolding false in conv => whnf))))
          refine call_con (N := []) (stands_con _ p more ca ca L' hrm.pages.len hp D3 hrm.pend (fun k => L'.getD k []) (fun k hk => hrm.page (by omega) hk)) ?_
          ((set_option smartUnfolding false in conv => whnf) <;> (repeat (first | exact True.intro | ((first | refine ⟨rfl, ?_⟩ | refine ar (by omega) (by omega) ?_ | refine ar8 (by omega) (by omega) ?_ | refine ix (by omega) ?_ | refine IdxVC.mk 0 rfl (by omega) ?_ | refine BytesVC.mk _ rfl ?_ | refine DivVC.mk (by omega) (by omega) ?_); set_option smartUnfolding false in conv => whnf))))
          rintro x P5 H' - ⟨rfl, rfl, rfl⟩
          rw [rm_stands hrm]
          ((set_option smartUnfolding false in conv => whnf) <;> (repeat (first | exact True.intro | ((first | refine ⟨rfl, ?_⟩ | refine ar (by omega) (by omega) ?_ | refine ar8 (by omega) (by omega) ?_ | refine ix (by omega) ?_ | refine IdxVC.mk 0 rfl (by omega) ?_ | refine BytesVC.mk _ rfl ?_ | refine DivVC.mk (by omega) (by omega) ?_); set_option smartUnfolding false in conv => whnf))))
          refine ⟨[rmC 302 300 301 p more 100020 ca, rowC 100020 ca L', lgC 301 300 p (.raw .nilIface), dC 300 D3], ?_⟩
          ((set_option smartUnfolding false in conv => whnf) <;> (repeat (first | exact True.intro | ((first | refine ⟨rfl, ?_⟩ | refine ar (by omega) (by omega) ?_ | refine ar8 (by omega) (by omega) ?_ | refine ix (by omega) ?_ | refine IdxVC.mk 0 rfl (by omega) ?_ | refine BytesVC.mk _ rfl ?_ | refine DivVC.mk (by omega) (by omega) ?_); set_option smartUnfolding false in conv => whnf))))
          refine ⟨[(302, 302), (300, 300), (301, 301), (100020, 303)], rfl, rfl, ?_⟩
          ((set_option smartUnfolding false in conv => whnf) <;> (repeat (first | exact True.intro | ((first | refine ⟨rfl, ?_⟩ | refine ar (by omega) (by omega) ?_ | refine ar8 (by omega) (by omega) ?_ | refine ix (by omega) ?_ | refine IdxVC.mk 0 rfl (by omega) ?_ | refine BytesVC.mk _ rfl ?_ | refine DivVC.mk (by omega) (by omega) ?_); set_option smartUnfolding false in conv => whnf))))
          exact ⟨D3, L', ca, hrm, h00, rfl, rfl⟩
        · ((set_option smartUnfolding false in conv => whnf) <;> (repeat (first | exact True.intro | ((first | refine ⟨rfl, ?_⟩ | refine ar (by omega) (by omega) ?_ | refine ar8 (by omega) (by omega) ?_ | refine ix (by omega) ?_ | refine IdxVC.mk 0 rfl (by omega) ?_ | refine BytesVC.mk _ rfl ?_ | refine DivVC.mk (by omega) (by omega) ?_); set_option smartUnfolding false in conv => whnf))))
          refine call_con (N := []) (Arm0_con _ D2 0 (by omega) (by omega)) ?_
          ((set_option smartUnfolding false in conv => whnf) <;> (repeat (first | exact True.intro | ((first | refine ⟨rfl, ?_⟩ | refine ar (by omega) (by omega) ?_ | refine ar8 (by omega) (by omega) ?_ | refine ix (by omega) ?_ | refine IdxVC.mk 0 rfl (by omega) ?_ | refine BytesVC.mk _ rfl ?_ | refine DivVC.mk (by omega) (by omega) ?_); set_option smartUnfolding false in conv => whnf))))
          have hrm : Rm (D2.arm 0 loss0).1 n p L' := by rw [(hD2.live.armd 0 loss0 (by omega) (by omega) ⟨by simp [loss0], by simp [loss0], by simp [loss0]⟩).1]; exact hD2.armd 0 loss0 (by omega) (by omega) ⟨by simp [loss0], by simp [loss0], by simp [loss0]⟩
          have h00 : (D2.arm 0 loss0).1.armed = 0 := by rw [(hD2.live.armd 0 loss0 (by omega) (by omega) ⟨by simp [loss0], by simp [loss0], by simp [loss0]⟩).1]
          obtain ⟨D3, hD3⟩ : ∃ D3, D3 = (D2.arm 0 loss0).1 := ⟨_, rfl⟩
          rw [← hD3] at hrm h00
          rw [← hD3]
          rintro x P3 H' - ⟨rfl, rfl, rfl⟩
          ((set_option smartUnfolding false in conv => whnf) <;> (repeat (first | exact True.intro | ((first | refine ⟨rfl, ?_⟩ | refine ar (by omega) (by omega) ?_ | refine ar8 (by omega) (by omega) ?_ | refine ix (by omega) ?_ | refine IdxVC.mk 0 rfl (by omega) ?_ | refine BytesVC.mk _ rfl ?_ | refine DivVC.mk (by omega) (by omega) ?_); set_option smartUnfolding false in conv => whnf))))
          refine call_con (N := []) (clean_con _ p more ca L' hrm.pages.len hrm.pages.each hp hmo D3 hrm.pend (hrm.img hn)) ?_
          ((set_option smartUnfolding false in conv => whnf) <;> (repeat (first | exact True.intro | ((first | refine ⟨rfl, ?_⟩ | refine ar (by omega) (by omega) ?_ | refine ar8 (by omega) (by omega) ?_ | refine ix (by omega) ?_ | refine IdxVC.mk 0 rfl (by omega) ?_ | refine BytesVC.mk _ rfl ?_ | refine DivVC.mk (by omega) (by omega) ?_); set_option smartUnfolding false in conv => whnf))))
          rintro x P4 H' - ⟨rfl, rfl, rfl⟩
          ((set_option smartUnfolding false in conv => whnf) <;> (repeat (first | exact True.intro | ((first | refine ⟨rfl, ?_⟩ | refine ar (by omega) (by omega) ?_ | refine ar8 (by omega) (by omega) ?_ | refine ix (by omega) ?_ | refine IdxVC.mk 0 rfl (by omega) ?_ | refine BytesVC.mk _ rfl ?_ | refine DivVC.mk (by omega) (by omega) ?_); set_option smartUnfolding false in conv => whnf))))
          refine call_con (N := []) (stands_con _ p more ca ca L' hrm.pages.len hp D3 hrm.pend (fun k => L'.getD k []) (fun k hk => hrm.page (by omega) hk)) ?_
          ((set_option smartUnfolding false in conv => whnf) <;> (repeat (first | exact True.intro | ((first | refine ⟨rfl, ?_⟩ | refine ar (by omega) (by omega) ?_ | refine ar8 (by omega) (by omega) ?_ | refine ix (by omega) ?_ | refine IdxVC.mk 0 rfl (by omega) ?_ | refine BytesVC.mk _ rfl ?_ | refine DivVC.mk (by omega) (by omega) ?_); set_option smartUnfolding false in conv => whnf))))
          rintro x P5 H' - ⟨rfl, rfl, rfl⟩
          rw [rm_stands hrm]
          ((set_option smartUnfolding false in conv => whnf) <;> (repeat (first | exact True.intro | ((first | refine ⟨rfl, ?_⟩ | refine ar (by omega) (by omega) ?_ | refine ar8 (by omega) (by omega) ?_ | refine ix (by omega) ?_ | refine IdxVC.mk 0 rfl (by omega) ?_ | refine BytesVC.mk _ rfl ?_ | refine DivVC.mk (by omega) (by omega) ?_); set_option smartUnfolding false in conv => whnf))))
          refine ⟨[rmC 302 300 301 p more 100020 ca, rowC 100020 ca L', lgC 301 300 p (.raw .nilIface), dC 300 D3], ?_⟩
          ((set_option smartUnfolding false in conv => whnf) <;> (repeat (first | exact True.intro | ((first | refine ⟨rfl, ?_⟩ | refine ar (by omega) (by omega) ?_ | refine ar8 (by omega) (by omega) ?_ | refine ix (by omega) ?_ | refine IdxVC.mk 0 rfl (by omega) ?_ | refine BytesVC.mk _ rfl ?_ | refine DivVC.mk (by omega) (by omega) ?_); set_option smartUnfolding false in conv => whnf))))
          refine ⟨[(302, 302), (300, 300), (301, 301), (100020, 303)], rfl, rfl, ?_⟩
          ((set_option smartUnfolding false in conv => whnf) <;> (repeat (first | exact True.intro | ((first | refine ⟨rfl, ?_⟩ | refine ar (by omega) (by omega) ?_ | refine ar8 (by omega) (by omega) ?_ | refine ix (by omega) ?_ | refine IdxVC.mk 0 rfl (by omega) ?_ | refine BytesVC.mk _ rfl ?_ | refine DivVC.mk (by omega) (by omega) ?_); set_option smartUnfolding false in conv => whnf))))
          exact ⟨D3, L', ca, hrm, h00, rfl, rfl⟩
      · have hzl : 0 < zs.length := List.length_pos_iff.2 hz
        rcases hD.commit (by omega) (by omega) hw.fit' hw.nodup' (by simpa using hz) (hw.perm (by omega)) with ⟨D2, hio, -, hD2⟩ | ⟨D2, -, -, hbad, -⟩
        case inr => omega
        rw [← hw.set] at hD2
        refine call_con (N := []) (Commit_con _ p zs.length co D D2 zs (by rw [hD.pend]; simp) (by omega) rfl (by have := hw.len; omega) hzl (askedFrom_ok p zs 0 [] hw.nodup hw.fit (by simp)) hw.fit (hw.lt (by omega)) hio) ?_
        ((set_option smartUnfolding false in conv => whnf) <;> (repeat (first | exact True.intro | ((first | refine ⟨rfl, ?_⟩ | refine ar (by omega) (by omega) ?_ | refine ar8 (by omega) (by omega) ?_ | refine ix (by omega) ?_ | refine IdxVC.mk 0 rfl (by omega) ?_ | refine BytesVC.mk _ rfl ?_ | refine DivVC.mk (by omega) (by omega) ?_); set_option smartUnfolding false in conv => whnf))))
        rintro x P2 H' - ⟨rfl, rfl, rfl⟩
        ((set_option smartUnfolding false in conv => whnf) <;> (repeat (first | exact True.intro | ((first | refine ⟨rfl, ?_⟩ | refine ar (by omega) (by omega) ?_ | refine ar8 (by omega) (by omega) ?_ | refine ix (by omega) ?_ | refine IdxVC.mk 0 rfl (by omega) ?_ | refine BytesVC.mk _ rfl ?_ | refine DivVC.mk (by omega) (by omega) ?_); set_option smartUnfolding false in conv => whnf))))
        refine bxd (fun hf => ?_) (fun hf => ?_)
        · ((set_option smartUnfolding false in conv => whnf) <;> (repeat (first | exact True.intro | ((first | refine ⟨rfl, ?_⟩ | refine ar (by omega) (by omega) ?_ | refine ar8 (by omega) (by omega) ?_ | refine ix (by omega) ?_ | refine IdxVC.mk 0 rfl (by omega) ?_ | refine BytesVC.mk _ rfl ?_ | refine DivVC.mk (by omega) (by omega) ?_); set_option smartUnfolding false in conv => whnf))))
          refine .mk 1 (F.map flEnc).length rfl rfl (by have h : (0 : Int) < ((F.map flEnc).length : Int) := hf; omega) (Nat.le_refl _) ?_
          ((set_option smartUnfolding false in conv => whnf) <;> (repeat (first | exact True.intro | ((first | refine ⟨rfl, ?_⟩ | refine ar (by omega) (by omega) ?_ | refine ar8 (by omega) (by omega) ?_ | refine ix (by omega) ?_ | refine IdxVC.mk 0 rfl (by omega) ?_ | refine BytesVC.mk _ rfl ?_ | refine DivVC.mk (by omega) (by omega) ?_); set_option smartUnfolding false in conv => whnf))))
          refine bxd (fun h => absurd h (by omega)) (fun _ => ?_)
          ((set_option smartUnfolding false in conv => whnf) <;> (repeat (first | exact True.intro | ((first | refine ⟨rfl, ?_⟩ | refine ar (by omega) (by omega) ?_ | refine ar8 (by omega) (by omega) ?_ | refine ix (by omega) ?_ | refine IdxVC.mk 0 rfl (by omega) ?_ | refine BytesVC.mk _ rfl ?_ | refine DivVC.mk (by omega) (by omega) ?_); set_option smartUnfolding false in conv => whnf))))
          refine call_con (N := []) (Arm0_con _ D2 0 (by omega) (by omega)) ?_
          ((set_option smartUnfolding false in conv => whnf) <;> (repeat (first | exact True.intro | ((first | refine ⟨rfl, ?_⟩ | refine ar (by omega) (by omega) ?_ | refine ar8 (by omega) (by omega) ?_ | refine ix (by omega) ?_ | refine IdxVC.mk 0 rfl (by omega) ?_ | refine BytesVC.mk _ rfl ?_ | refine DivVC.mk (by omega) (by omega) ?_); set_option smartUnfolding false in conv => whnf))))
          have hrm : Rm (D2.arm 0 loss0).1 n p L' := by rw [(hD2.live.armd 0 loss0 (by omega) (by omega) ⟨by simp [loss0], by simp [loss0], by simp [loss0]⟩).1]; exact hD2.armd 0 loss0 (by omega) (by omega) ⟨by simp [loss0], by simp [loss0], by simp [loss0]⟩
          have h00 : (D2.arm 0 loss0).1.armed = 0 := by rw [(hD2.live.armd 0 loss0 (by omega) (by omega) ⟨by simp [loss0], by simp [loss0], by simp [loss0]⟩).1]
          obtain ⟨D3, hD3⟩ : ∃ D3, D3 = (D2.arm 0 loss0).1 := ⟨_, rfl⟩
          rw [← hD3] at hrm h00
          rw [← hD3]
          rintro x P3 H' - ⟨rfl, rfl, rfl⟩
          ((set_option smartUnfolding false in conv => whnf) <;> (repeat (first | exact True.intro | ((first | refine ⟨rfl, ?_⟩ | refine ar (by omega) (by omega) ?_ | refine ar8 (by omega) (by omega) ?_ | refine ix (by omega) ?_ | refine IdxVC.mk 0 rfl (by omega) ?_ | refine BytesVC.mk _ rfl ?_ | refine DivVC.mk (by omega) (by omega) ?_); set_option smartUnfolding false in conv => whnf))))
          refine call_con (N := []) (clean_con _ p more ca L' hrm.pages.len hrm.pages.each hp hmo D3 hrm.pend (hrm.img hn)) ?_
          ((set_option smartUnfolding false in conv => whnf) <;> (repeat (first | exact True.intro | ((first | refine ⟨rfl, ?_⟩ | refine ar (by omega) (by omega) ?_ | refine ar8 (by omega) (by omega) ?_ | refine ix (by omega) ?_ | refine IdxVC.mk 0 rfl (by omega) ?_ | refine BytesVC.mk _ rfl ?_ | refine DivVC.mk (by omega) (by omega) ?_); set_option smartUnfolding false in conv => whnf))))
          rintro x P4 H' - ⟨rfl, rfl, rfl⟩
          ((set_option smartUnfolding false in conv => whnf) <;> (repeat (first | exact True.intro | ((first | refine ⟨rfl, ?_⟩ | refine ar (by omega) (by omega) ?_ | refine ar8 (by omega) (by omega) ?_ | refine ix (by omega) ?_ | refine IdxVC.mk 0 rfl (by omega) ?_ | refine BytesVC.mk _ rfl ?_ | refine DivVC.mk (by omega) (by omega) ?_); set_option smartUnfolding false in conv => whnf))))
          refine call_con (N := []) (stands_con _ p more ca ca L' hrm.pages.len hp D3 hrm.pend (fun k => L'.getD k []) (fun k hk => hrm.page (by omega) hk)) ?_
          ((set_option smartUnfolding false in conv => whnf) <;> (repeat (first | exact True.intro | ((first | refine ⟨rfl, ?_⟩ | refine ar (by omega) (by omega) ?_ | refine ar8 (by omega) (by omega) ?_ | refine ix (by omega) ?_ | refine IdxVC.mk 0 rfl (by omega) ?_ | refine BytesVC.mk _ rfl ?_ | refine DivVC.mk (by omega) (by omega) ?_); set_option smartUnfolding false in conv => whnf))))
          rintro x P5 H' - ⟨rfl, rfl, rfl⟩
          rw [rm_stands hrm]
          ((set_option smartUnfolding false in conv => whnf) <;> (repeat (first | exact True.intro | ((first | refine ⟨rfl, ?_⟩ | refine ar (by omega) (by omega) ?_ | refine ar8 (by omega) (by omega) ?_ | refine ix (by omega) ?_ | refine IdxVC.mk 0 rfl (by omega) ?_ | refine BytesVC.mk _ rfl ?_ | refine DivVC.mk (by omega) (by omega) ?_); set_option smartUnfolding false in conv => whnf))))
          refine ⟨[rmC 302 300 301 p more 100020 ca, rowC 100020 ca L', lgC 301 300 p (.raw .nilIface), dC 300 D3], ?_⟩
          ((set_option smartUnfolding false in conv => whnf) <;> (repeat (first | exact True.intro | ((first | refine ⟨rfl, ?_⟩ | refine ar (by omega) (by omega) ?_ | refine ar8 (by omega) (by omega) ?_ | refine ix (by omega) ?_ | refine IdxVC.mk 0 rfl (by omega) ?_ | refine BytesVC.mk _ rfl ?_ | refine DivVC.mk (by omega) (by omega) ?_); set_option smartUnfolding false in conv => whnf))))
          refine ⟨[(302, 302), (300, 300), (301, 301), (100020, 303)], rfl, rfl, ?_⟩
          ((set_option smartUnfolding false in conv => whnf) <;> (repeat (first | exact True.intro | ((first | refine ⟨rfl, ?_⟩ | refine ar (by omega) (by omega) ?_ | refine ar8 (by omega) (by omega) ?_ | refine ix (by omega) ?_ | refine IdxVC.mk 0 rfl (by omega) ?_ | refine BytesVC.mk _ rfl ?_ | refine DivVC.mk (by omega) (by omega) ?_); set_option smartUnfolding false in conv => whnf))))
          exact ⟨D3, L', ca, hrm, h00, rfl, rfl⟩
        · ((set_option smartUnfolding false in conv => whnf) <;> (repeat (first | exact True.intro | ((first | refine ⟨rfl, ?_⟩ | refine ar (by omega) (by omega) ?_ | refine ar8 (by omega) (by omega) ?_ | refine ix (by omega) ?_ | refine IdxVC.mk 0 rfl (by omega) ?_ | refine BytesVC.mk _ rfl ?_ | refine DivVC.mk (by omega) (by omega) ?_); set_option smartUnfolding false in conv => whnf))))
          refine bxd (fun h => absurd h (by omega)) (fun _ => ?_)
          ((set_option smartUnfolding false in conv => whnf) <;> (repeat (first | exact True.intro | ((first | refine ⟨rfl, ?_⟩ | refine ar (by omega) (by omega) ?_ | refine ar8 (by omega) (by omega) ?_ | refine ix (by omega) ?_ | refine IdxVC.mk 0 rfl (by omega) ?_ | refine BytesVC.mk _ rfl ?_ | refine DivVC.mk (by omega) (by omega) ?_); set_option smartUnfolding false in conv => whnf))))
          refine call_con (N := []) (Arm0_con _ D2 0 (by omega) (by omega)) ?_
          ((set_option smartUnfolding false in conv => whnf) <;> (repeat (first | exact True.intro | ((first | refine ⟨rfl, ?_⟩ | refine ar (by omega) (by omega) ?_ | refine ar8 (by omega) (by omega) ?_ | refine ix (by omega) ?_ | refine IdxVC.mk 0 rfl (by omega) ?_ | refine BytesVC.mk _ rfl ?_ | refine DivVC.mk (by omega) (by omega) ?_); set_option smartUnfolding false in conv => whnf))))
          have hrm : Rm (D2.arm 0 loss0).1 n p L' := by rw [(hD2.live.armd 0 loss0 (by omega) (by omega) ⟨by simp [loss0], by simp [loss0], by simp [loss0]⟩).1]; exact hD2.armd 0 loss0 (by omega) (by omega) ⟨by simp [loss0], by simp [loss0], by simp [loss0]⟩
          have h00 : (D2.arm 0 loss0).1.armed = 0 := by rw [(hD2.live.armd 0 loss0 (by omega) (by omega) ⟨by simp [loss0], by simp [loss0], by simp [loss0]⟩).1]
          obtain ⟨D3, hD3⟩ : ∃ D3, D3 = (D2.arm 0 loss0).1 := ⟨_, rfl⟩
          rw [← hD3] at hrm h00
          rw [← hD3]
          rintro x P3 H' - ⟨rfl, rfl, rfl⟩
          ((set_option smartUnfolding false in conv => whnf) <;> (repeat (first | exact True.intro | ((first | refine ⟨rfl, ?_⟩ | refine ar (by omega) (by omega) ?_ | refine ar8 (by omega) (by omega) ?_ | refine ix (by omega) ?_ | refine IdxVC.mk 0 rfl (by omega) ?_ | refine BytesVC.mk _ rfl ?_ | refine DivVC.mk (by omega) (by omega) ?_); set_option smartUnfolding false in conv => whnf))))
          refine call_con (N := []) (clean_con _ p more ca L' hrm.pages.len hrm.pages.each hp hmo D3 hrm.pend (hrm.img hn)) ?_
          ((set_option smartUnfolding false in conv => whnf) <;> (repeat (first | exact True.intro | ((first | refine ⟨rfl, ?_⟩ | refine ar (by omega) (by omega) ?_ | refine ar8 (by omega) (by omega) ?_ | refine ix (by omega) ?_ | refine IdxVC.mk 0 rfl (by omega) ?_ | refine BytesVC.mk _ rfl ?_ | refine DivVC.mk (by omega) (by omega) ?_); set_option smartUnfolding false in conv => whnf))))
          rintro x P4 H' - ⟨rfl, rfl, rfl⟩
          ((set_option smartUnfolding false in conv => whnf) <;> (repeat (first | exact True.intro | ((first | refine ⟨rfl, ?_⟩ | refine ar (by omega) (by omega) ?_ | refine ar8 (by omega) (by omega) ?_ | refine ix (by omega) ?_ | refine IdxVC.mk 0 rfl (by omega) ?_ | refine BytesVC.mk _ rfl ?_ | refine DivVC.mk (by omega) (by omega) ?_); set_option smartUnfolding false in conv => whnf))))
          refine call_con (N := []) (stands_con _ p more ca ca L' hrm.pages.len hp D3 hrm.pend (fun k => L'.getD k []) (fun k hk => hrm.page (by omega) hk)) ?_
          ((set_option smartUnfolding false in conv => whnf) <;> (repeat (first | exact True.intro | ((first | refine ⟨rfl, ?_⟩ | refine ar (by omega) (by omega) ?_ | refine ar8 (by omega) (by omega) ?_ | refine ix (by omega) ?_ | refine IdxVC.mk 0 rfl (by omega) ?_ | refine BytesVC.mk _ rfl ?_ | refine DivVC.mk (by omega) (by omega) ?_); set_option smartUnfolding false in conv => whnf))))
          rintro x P5 H' - ⟨rfl, rfl, rfl⟩
          rw [rm_stands hrm]
          ((set_option smartUnfolding false in conv => whnf) <;> (repeat (first | exact True.intro | ((first | refine ⟨rfl, ?_⟩ | refine ar (by omega) (by omega) ?_ | refine ar8 (by omega) (by omega) ?_ | refine ix (by omega) ?_ | refine IdxVC.mk 0 rfl (by omega) ?_ | refine BytesVC.mk _ rfl ?_ | refine DivVC.mk (by omega) (by omega) ?_); set_option smartUnfolding false in conv => whnf))))
          refine ⟨[rmC 302 300 301 p more 100020 ca, rowC 100020 ca L', lgC 301 300 p (.raw .nilIface), dC 300 D3], ?_⟩
          ((set_option smartUnfolding false in conv => whnf) <;> (repeat (first | exact True.intro | ((first | refine ⟨rfl, ?_⟩ | refine ar (by omega) (by omega) ?_ | refine ar8 (by omega) (by omega) ?_ | refine ix (by omega) ?_ | refine IdxVC.mk 0 rfl (by omega) ?_ | refine BytesVC.mk _ rfl ?_ | refine DivVC.mk (by omega) (by omega) ?_); set_option smartUnfolding false in conv => whnf))))
          refine ⟨[(302, 302), (300, 300), (301, 301), (100020, 303)], rfl, rfl, ?_⟩
          ((set_option smartUnfolding false in conv => whnf) <;> (repeat (first | exact True.intro | ((first | refine ⟨rfl, ?_⟩ | refine ar (by omega) (by omega) ?_ | refine ar8 (by omega) (by omega) ?_ | refine ix (by omega) ?_ | refine IdxVC.mk 0 rfl (by omega) ?_ | refine BytesVC.mk _ rfl ?_ | refine DivVC.mk (by omega) (by omega) ?_); set_option smartUnfolding false in conv => whnf))))
          exact ⟨D3, L', ca, hrm, h00, rfl, rfl⟩
end Go.Proofs.YtpaebopmppbjbaaGreatDoor

/- What asked tells of a list that is spoilt at one place. -/
set_option linter.unusedVariables false
set_option linter.unusedSimpArgs false
namespace Go.Proofs.YtpaebopmppbjbaaGreatDoor
open Go Go.RowKit Go.Le Go.Eng
/-- turns, as the engine reads them -/
structure Tn where
  pa : Option Addr
  pc : Nat
  T : List Pg0
  cr : Bool
  fa : Option Addr
  fc : Nat
  F : List Fl
  an : Bool
def tnEnc (t : Tn) : List Cell := [.rs t.pa t.pc 3 (t.T.map pgEnc), .v (.bool t.cr), .rs t.fa t.fc 4 (t.F.map flEnc), .v (.bool t.an)]
def turnsC (l : List Tn) : Cont := ⟨4, id, l.map tnEnc⟩
end Go.Proofs.YtpaebopmppbjbaaGreatDoor
