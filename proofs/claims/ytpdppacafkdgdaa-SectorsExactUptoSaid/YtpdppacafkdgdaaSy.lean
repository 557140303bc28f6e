/- The disk (package sectors), as the engine's calls take it: New, Load, Image, Read, Write, Arm, Crash, Cache. -/
import Derived.Test.YtpdppacafkdgdaaSx
import Derived.Test.YtpdppacafkdgdaaNil
set_option linter.unusedVariables false
set_option linter.unusedSimpArgs false
namespace Go.Proofs.Ytpdppacafkdgdaa
open Go Go.RowKit Go.Le Go.Eng
/-- a row of bytes, at a place that is told -/
abbrev rowU (n cap : Nat) (l : List UInt8) : Ck := .row n 5 cap (Eng.bytes l)
theorem rowU_den (ρ : Places) (n cap : Nat) (l : List UInt8) : Ck.den ρ (rowU n cap l) = Le.row 5 1 (ρ n) l.length cap (byts l) := by
  show Le.row _ 1 (ρ n) l.length cap (Cont.vals (Eng.bytes l)) = _
  rw [vals_bytes]
theorem rowU_ok (ρ : Places) (wb : World) (P : Hp) (n cap : Nat) (l : List UInt8) : Ck.ok ρ wb P (rowU n cap l) := fun x hx => ⟨rfl, fun y hy => by simp only [List.mem_singleton] at hy; subst hy; rfl⟩
/-- what a call of the disk leaves: the disk, and a row of bytes that is new -/
theorem dev_row {ρ : Places} {wb w' : World} {R : HP} {P : Hp} {g : Nat} {D : Dev} {a : Option Addr} {cap m : Nat} {l : List UInt8} (hg : ρ 0 = some ⟨g, 0, none⟩) (hm0 : m ≠ 0) (h : Mem wb w' (Le.row 5 1 a l.length cap (byts l) * (devAt T8 g D * (own P * R)))) :
    Models (pl [(m, a)] ρ) wb w' R P [dC 0 D, rowU m cap l] ∧ (SV.sl m 1 0 l.length cap).ok (pl [(m, a)] ρ) wb P ∧ (SV.sl m 1 0 l.length cap).den (pl [(m, a)] ρ) = .slice a l.length cap ∧ ∀ n, hasN n [0] = true → pl [(m, a)] ρ n = ρ n := by
  have em : pl [(m, a)] ρ m = a := by simp [pl]
  have e0 : pl [(m, a)] ρ 0 = ρ 0 := by simp [pl, hm0]
  refine ⟨⟨?_, trivial, rowU_ok _ _ _ _ _ _, trivial⟩, ?_, by rw [sl0, em], fun n hn => ?_⟩
  · simp only [star, rowU_den, em, dev_at (e0.trans hg), sep_emp]
    exact h.eq (by ac_rfl)
  · simp only [SV.ok, em]; exact row_ok h
  · have : n = 0 := by
      simp only [hasN] at hn
      split at hn
      · rename_i hb; exact (Nat.eq_of_beq_eq_true hb).symm
      · cases hn
    rw [this, e0]
theorem dev_in {ρ : Places} {wb w : World} {R : HP} {P : Hp} {D : Dev} {r : List Ck} (hM : Models ρ wb w R P (dC 0 D :: r)) : ∃ g, ρ 0 = some ⟨g, 0, none⟩ ∧ Mem wb w (devAt T8 g D * (own P * (star ρ r * R))) := by
  have hm : Mem wb w (Ck.den ρ (dC 0 D) * (own P * (star ρ r * R))) := hM.mem.eq (by simp only [star]; ac_rfl)
  obtain ⟨g, hg⟩ := dev_has hm
  rw [dev_at hg] at hm
  exact ⟨g, hg, hm⟩
theorem Image_con (P : Hp) (D : Dev) : Con Try.prog [0] 16 [.ptr 0 0] P [dC 0 D] fun x P' H' => ∃ cap, x = .sl 20 1 0 D.img.length cap ∧ P' = P ∧ H' = [dC 0 D, rowU 20 cap D.img] := by
  refine ⟨Try.call16, fun ρ wb w R hM _ => ?_⟩
  obtain ⟨g, hg, hm⟩ := dev_in hM
  simp only [star, emp_sep] at hm
  obtain ⟨hok, ka, kc, h1⟩ := Mem.devAt.1 hm
  simp only [denL, SV.den, hg, Option.map_some, Addr.add0]
  refine (Image_any wb w _ g D ka _ kc h1 hok).mono ?_
  rintro e w' ⟨a, c, rfl, hm'⟩
  have hm2 : Mem wb w' (Le.row 5 1 a D.img.length c (byts D.img) * (devAt T8 g D * (own P * R))) := (Mem.devAt.2 ⟨hok, ka, kc, hm'.eq (show _ = Le.dev0 T8 g D ka D.loss.keep.length kc * (keepAt T8 (ka, kc) D.loss * (Le.row 5 1 a D.img.length c (byts D.img) * (own P * R))) by ac_rfl)⟩).eq (by ac_rfl)
  obtain ⟨q1, q2, q3, q4⟩ := dev_row (m := 20) hg (by decide) hm2
  exact ⟨_, _, P, _, q4, by rw [q3], q2, q1, Hp.le_refl P, c, rfl, rfl, rfl⟩
theorem Read_con (P : Hp) (D : Dev) (hpl : D.pend.length ≤ 1000000000) (i : Int) (i1 : -9223372036854775808 ≤ i) (i2 : i ≤ 9223372036854775807) :
    Con Try.prog [0] 41 [.ptr 0 0, .raw (.int .i64 i)] P [dC 0 D] fun x P' H' => ∃ cap, x = .tup [.sl 20 1 0 (D.read i).1.length cap, .raw (.int .i64 (D.read i).2)] ∧ P' = P ∧ H' = [dC 0 D, rowU 20 cap (D.read i).1] := by
  refine ⟨Try.call41, fun ρ wb w R hM _ => ?_⟩
  obtain ⟨g, hg, hm⟩ := dev_in hM
  simp only [star, emp_sep] at hm
  obtain ⟨hok, ka, kc, h1⟩ := Mem.devAt.1 hm
  simp only [denL, SV.den, hg, Option.map_some, Addr.add0]
  by_cases ha : D.asked i = 0
  · obtain ⟨hd, i0, hi⟩ := asked_zero ha
    obtain ⟨j, rfl⟩ : ∃ j : Nat, i = (j : Int) := ⟨i.toNat, by omega⟩
    have hj : j < D.n := by omega
    have hr : D.read (j : Int) = (D.last j, 0) := by unfold Dev.read; rw [if_neg (by simpa using ha)]; rfl
    have hll := D.last_length hok hj
    rw [hr]
    refine (Read_any wb w _ g D ka _ kc h1 hok hpl j hj hd).mono ?_
    rintro e w' ⟨a, c, rfl, hm'⟩
    have hm2 : Mem wb w' (Le.row 5 1 a (D.last j).length c (byts (D.last j)) * (devAt T8 g D * (own P * R))) := by
      rw [hll]
      exact (Mem.devAt.2 ⟨hok, ka, kc, hm'.eq (show _ = Le.dev0 T8 g D ka D.loss.keep.length kc * (keepAt T8 (ka, kc) D.loss * (Le.row 5 1 a 512 c (byts (D.last j)) * (own P * R))) by ac_rfl)⟩).eq (by ac_rfl)
    obtain ⟨q1, q2, q3, q4⟩ := dev_row (m := 20) hg (by decide) hm2
    refine ⟨_, .tup [.sl 20 1 0 (D.last j).length c, .raw (.int .i64 0)], P, _, q4, ?_, ?_, q1, Hp.le_refl P, c, rfl, rfl, rfl⟩
    · show _ = Ending.returned (.tuple (denL _ _).toArray)
      simp only [denL]
      rw [q3, hll]; rfl
    · simp only [SV.ok, okL, and_true]; simp only [SV.ok] at q2; exact q2
  · have hr : D.read i = ([], D.asked i) := by unfold Dev.read; rw [if_pos ha]
    rw [hr]
    refine (Read_no wb w _ g D ka _ kc h1 hok i i1 i2 ha).mono ?_
    rintro e w' ⟨rfl, rfl⟩
    have hm2 : Mem wb w (Le.row 5 1 none ([] : List UInt8).length 0 (byts []) * (devAt T8 g D * (own P * R))) := Mem.row_none.2 ⟨rfl, rfl, rfl, hm⟩
    obtain ⟨q1, q2, q3, q4⟩ := dev_row (m := 20) hg (by decide) hm2
    refine ⟨_, .tup [.sl 20 1 0 ([] : List UInt8).length 0, .raw (.int .i64 (D.asked i))], P, _, q4, ?_, ?_, q1, Hp.le_refl P, 0, rfl, rfl, rfl⟩
    · show _ = Ending.returned (.tuple (denL _ _).toArray)
      simp only [denL]
      rw [q3]; rfl
    · unfold SV.ok; unfold okL; exact ⟨q2, by simp only [SV.ok, okL, and_self]⟩
/-- Write of the beginning of a row -/
theorem Write_con (P : Hp) (D : Dev) (hpl : D.pend.length ≤ 1000000000) (i : Int) (i1 : -9223372036854775808 ≤ i) (i2 : i ≤ 9223372036854775807) (L : List UInt8) (n cap : Nat) (hn : n ≤ L.length) :
    Con Try.prog [0, 1] 12 [.ptr 0 0, .raw (.int .i64 i), .sl 1 1 0 n cap] P [dC 0 D, rowU 1 cap L] fun x P' H' => x = .raw (.int .i64 (D.write i (L.take n)).2) ∧ P' = P ∧ H' = [dC 0 (D.write i (L.take n)).1, rowU 1 cap L] := by
  refine ⟨Try.call12, fun ρ wb w R hM _ => ?_⟩
  obtain ⟨g, hg, hm⟩ := dev_in hM
  simp only [star, sep_emp, rowU_den] at hm
  have hs := hm.p2.row_sl.take n hn
  rw [byts_take] at hs
  simp only [denL, SV.den, hg, Option.map_some, Addr.add0]
  have e1 : ((ρ 1).map (·.add (0 * 1))) = ρ 1 := by cases ρ 1 <;> simp [Addr.add]
  rw [e1]
  refine (Write_any wb w _ g D hm hpl i i1 i2 (ρ 1) n cap (L.take n) hs).mono ?_
  rintro e w' ⟨rfl, hm'⟩
  refine ⟨ρ, _, P, [dC 0 (D.write i (L.take n)).1, rowU 1 cap L], fun _ _ => rfl, rfl, by simp only [SV.ok], ⟨?_, ⟨trivial, rowU_ok ρ _ _ _ _ _, trivial⟩⟩, Hp.le_refl P, rfl, rfl, rfl⟩
  simp only [star, rowU_den, dev_at hg, sep_emp]
  exact hm'.eq (by ac_rfl)
/-- numbers of 64 bits, a row of them -/
abbrev rowQ (n cap : Nat) (l : List Nat) : Ck := .row n 39 cap (keepC l)
theorem rowQ_den (ρ : Places) (n cap : Nat) (l : List Nat) : Ck.den ρ (rowQ n cap l) = Le.row 39 1 (ρ n) l.length cap (u64s l) := by
  show Le.row _ 1 (ρ n) (keepC l).l.length cap (Cont.vals (keepC l)) = _
  rw [keep_vals, show (keepC l).l.length = l.length from List.length_map ..]
theorem rowQ_ok (ρ : Places) (wb : World) (P : Hp) (n cap : Nat) (l : List Nat) : Ck.ok ρ wb P (rowQ n cap l) := fun x hx => by
  obtain ⟨y, -, rfl⟩ := List.mem_map.1 hx
  exact ⟨rfl, fun z hz => by have hz : z ∈ [Cell.v (.int .u64 (y : Int))] := hz; simp only [List.mem_singleton] at hz; subst hz; rfl⟩
theorem u64s_take (l : List Nat) (n : Nat) : (u64s l).take n = u64s (l.take n) := by simp [u64s, List.map_take]
/-- Arm, the loss's numbers the beginning of an owned row -/
theorem ArmR_con (P : Hp) (D : Dev) (step : Int) (s1 : -9223372036854775808 ≤ step) (s2 : step ≤ 9223372036854775807) (l : Loss) (hl : l.ok) (hkl : l.keep.length ≤ 1000000000) (K : List Nat) (hK : K.take l.keep.length = l.keep) (cap : Nat) :
    Con Try.prog [0, 1] 22 [.ptr 0 0, .raw (.int .i64 step), .agg [.sl 1 1 0 l.keep.length cap, .raw (.int .i64 l.torn), .raw (.int .i64 l.off)]] P [dC 0 D, rowQ 1 cap K] fun x P' H' => x = .raw (.int .i64 (D.arm step l).2) ∧ P' = P ∧ H' = [dC 0 (D.arm step l).1, rowQ 1 cap K] := by
  have hle : l.keep.length ≤ K.length := by rw [← hK, List.length_take]; omega
  refine ⟨Try.call22, fun ρ wb w R hM _ => ?_⟩
  obtain ⟨g, hg, hm⟩ := dev_in hM
  simp only [star, sep_emp, rowQ_den] at hm
  have hs : ∀ w', Mem wb w' (own P * (Le.row 39 1 (ρ 1) K.length cap (u64s K) * R)) → Sl w' (ρ 1) l.keep.length cap (u64s l.keep) := fun w' h => by
    have := h.p1.row_sl.take l.keep.length hle
    rw [u64s_take, hK] at this
    exact this
  simp only [denL, SV.den, hg, Option.map_some, Addr.add0]
  have e1 : ((ρ 1).map (·.add (0 * 1))) = ρ 1 := by cases ρ 1 <;> simp [Addr.add]
  rw [e1]
  refine (Arm_any wb w _ g D hm step s1 s2 l (ρ 1) cap hs hl hkl).mono ?_
  rintro e w' ⟨rfl, hm'⟩
  refine ⟨ρ, _, P, [dC 0 (D.arm step l).1, rowQ 1 cap K], fun _ _ => rfl, rfl, by simp only [SV.ok], ⟨?_, ⟨trivial, rowQ_ok ρ _ _ _ _ _, trivial⟩⟩, Hp.le_refl P, rfl, rfl, rfl⟩
  simp only [star, rowQ_den, dev_at hg, sep_emp]
  exact hm'.eq (by ac_rfl)
theorem CrashR_con (P : Hp) (D : Dev) (hpl : D.pend.length ≤ 1000000000) (l : Loss) (hl : l.ok) (K : List Nat) (hK : K.take l.keep.length = l.keep) (cap : Nat) :
    Con Try.prog [0, 1] 15 [.ptr 0 0, .agg [.sl 1 1 0 l.keep.length cap, .raw (.int .i64 l.torn), .raw (.int .i64 l.off)]] P [dC 0 D, rowQ 1 cap K] fun x P' H' => x = .raw (.int .i64 (D.crash l).2) ∧ P' = P ∧ H' = [dC 0 (D.crash l).1, rowQ 1 cap K] := by
  have hle : l.keep.length ≤ K.length := by rw [← hK, List.length_take]; omega
  refine ⟨Try.call15, fun ρ wb w R hM _ => ?_⟩
  obtain ⟨g, hg, hm⟩ := dev_in hM
  simp only [star, sep_emp, rowQ_den] at hm
  have hs : ∀ w', Mem wb w' (own P * (Le.row 39 1 (ρ 1) K.length cap (u64s K) * R)) → Sl w' (ρ 1) l.keep.length cap (u64s l.keep) := fun w' h => by
    have := h.p1.row_sl.take l.keep.length hle
    rw [u64s_take, hK] at this
    exact this
  simp only [denL, SV.den, hg, Option.map_some, Addr.add0]
  have e1 : ((ρ 1).map (·.add (0 * 1))) = ρ 1 := by cases ρ 1 <;> simp [Addr.add]
  rw [e1]
  refine (Crash_any wb w _ g D hm (by omega) l (ρ 1) cap hs hl).mono ?_
  rintro e w' ⟨rfl, hm'⟩
  refine ⟨ρ, _, P, [dC 0 (D.crash l).1, rowQ 1 cap K], fun _ _ => rfl, rfl, by simp only [SV.ok], ⟨?_, ⟨trivial, rowQ_ok ρ _ _ _ _ _, trivial⟩⟩, Hp.le_refl P, rfl, rfl, rfl⟩
  simp only [star, rowQ_den, dev_at hg, sep_emp]
  exact hm'.eq (by ac_rfl)
/-- what Cache hands out: a list of writes, and their bytes -/
abbrev Pq := (Nat × List UInt8) × (Option Addr × Nat)
def pqEnc (z : Pq) : List Cell := [.v (.int .i64 (z.1.1 : Int)), .v (.slice z.2.1 z.1.2.length z.2.2)]
abbrev pqC (l : List Pq) : Cont := ⟨2, id, l.map pqEnc⟩
theorem pq_vals (l : List Pq) : Cont.vals (pqC l) = pzCells l := by unfold Cont.vals; rw [List.flatMap_map]; rfl
def pqRows (l : List Pq) : Ck := .ab 6 [] ⟨fun _ => all (l.map (pzRow 5)), fun _ => True⟩
theorem Cache_con (P : Hp) (D : Dev) (hpl : D.pend.length ≤ 1000000000) : Con Try.prog [0] 27 [.ptr 0 0] P [dC 0 D] fun x P' H' => ∃ zs : List Pq, zs.map (·.1) = D.pend ∧ x = .sl 20 2 0 zs.length zs.length ∧ P' = P ∧ H' = [dC 0 D, .row 20 76 zs.length (pqC zs), pqRows zs] := by
  refine ⟨Try.call27, fun ρ wb w R hM _ => ?_⟩
  obtain ⟨g, hg, hm⟩ := dev_in hM
  simp only [star, emp_sep] at hm
  obtain ⟨hok, ka, kc, h1⟩ := Mem.devAt.1 hm
  simp only [denL, SV.den, hg, Option.map_some, Addr.add0]
  refine (Cache_any wb w _ g D ka _ kc h1 hok hpl).mono ?_
  rintro e w' ⟨a, rfl, hm'⟩
  obtain ⟨zs, hz, hm2⟩ := Mem.pends.1 hm'
  have hzl : D.pend.length = zs.length := by rw [← hz, List.length_map]
  rw [hzl] at hm2 ⊢
  have e20 : pl [(20, a)] ρ 20 = a := by simp [pl]
  have e0 : pl [(20, a)] ρ 0 = ρ 0 := by simp [pl]
  refine ⟨pl [(20, a)] ρ, .sl 20 2 0 zs.length zs.length, P, [dC 0 D, .row 20 76 zs.length (pqC zs), pqRows zs], fun n hn => ?_, ?_, ?_, ⟨?_, ⟨trivial, ?_, trivial, trivial⟩⟩, Hp.le_refl P, zs, hz, rfl, rfl, rfl⟩
  · have : n = 0 := by
      simp only [hasN] at hn
      split at hn
      · rename_i hb; exact (Nat.eq_of_beq_eq_true hb).symm
      · cases hn
    rw [this, e0]
  · simp only [SV.den, e20]
    congr 2
    cases a <;> simp [Addr.add]
  · simp only [SV.ok, e20]; exact row_ok hm2
  · have hd : Mem wb w' (devAt T8 g D * (own P * (Le.row 76 2 a zs.length zs.length (pzCells zs) * (all (zs.map (pzRow 5)) * R)))) := Mem.devAt.2 ⟨hok, ka, kc, hm2.eq (by
      show Le.row 76 2 a zs.length zs.length (pzCells zs) * (all (zs.map (pzRow 5)) * (Le.dev0 T8 g D ka D.loss.keep.length kc * (keepAt T8 (ka, kc) D.loss * (own P * R)))) = _
      ac_rfl)⟩
    simp only [star, dev_at (e0.trans hg), sep_emp]
    show Mem wb w' (own P * (devAt T8 g D * (Le.row 76 2 (pl [(20, a)] ρ 20) (zs.map pqEnc).length zs.length (Cont.vals (pqC zs)) * all (zs.map (pzRow 5))) * R))
    rw [e20, pq_vals, List.length_map]
    exact hd.eq (by ac_rfl)
  · intro x hx
    obtain ⟨z, -, rfl⟩ := List.mem_map.1 hx
    exact ⟨rfl, fun y hy => by simp only [pqEnc, id, List.mem_cons, List.not_mem_nil, or_false] at hy; rcases hy with rfl | rfl <;> rfl⟩
theorem NewNo_con (P : Hp) (n : Int) (h : n < 1 ∨ 4096 < n) (hn1 : -9223372036854775808 ≤ n) (hn2 : n ≤ 9223372036854775807) : Con Try.prog [] 21 [.raw (.int .i64 n)] P [] fun x P' H' => x = .tup [.raw (.pointer none), .raw (.int .i64 4)] ∧ P' = P ∧ H' = [] := by
  refine ⟨Try.call21, fun ρ wb w R hM _ => ?_⟩
  refine (New_no w n h hn1 hn2).mono ?_
  rintro e w' ⟨rfl, rfl⟩
  exact ⟨ρ, .tup [.raw (.pointer none), .raw (.int .i64 4)], P, [], fun _ _ => rfl, rfl, by simp only [SV.ok, okL, and_self], hM, Hp.le_refl P, rfl, rfl, rfl⟩
theorem New_con (P : Hp) (k : Nat) (h1 : 1 ≤ k) (h2 : k ≤ 4096) : Con Try.prog [] 21 [.raw (.int .i64 (k : Int))] P [] fun x P' H' => x = .tup [.ptr 20 0, .raw (.int .i64 0)] ∧ P' = P ∧ H' = [dC 20 (Dev.fresh (zrs (k * 512)))] := by
  refine ⟨Try.call21, fun ρ wb w R hM _ => ?_⟩
  refine (New_any wb w _ hM.mem k h1 h2).mono ?_
  rintro e w' ⟨g, rfl, hm'⟩
  have e20 : pl [(20, some ⟨g, 0, none⟩)] ρ 20 = some ⟨g, 0, none⟩ := rfl
  refine ⟨pl [(20, some ⟨g, 0, none⟩)] ρ, .tup [.ptr 20 0, .raw (.int .i64 0)], P, [dC 20 (Dev.fresh (zrs (k * 512)))], (fun n hn => by cases hn), rfl, by simp only [SV.ok, okL, and_true]; exact ⟨g, e20⟩, ⟨?_, ⟨trivial, trivial⟩⟩, Hp.le_refl P, rfl, rfl, rfl⟩
  simp only [star, dev_at e20, sep_emp, emp_sep] at hm' ⊢
  exact hm'.eq (by show devAt T8 g (Dev.fresh (zrs (k * 512))) * (own P * R) = own P * (devAt T8 g (Dev.fresh (zrs (k * 512))) * R); ac_rfl)
theorem LoadNo_con (P : Hp) (L : List UInt8) (cap : Nat) (hn : ¬ ∃ k, L.length = k * 512 ∧ 1 ≤ k ∧ k ≤ 4096) : Con Try.prog [0] 30 [.sl 0 1 0 L.length cap] P [rowU 0 cap L] fun x P' H' => x = .tup [.raw (.pointer none), .raw (.int .i64 83)] ∧ P' = P ∧ H' = [rowU 0 cap L] := by
  refine ⟨Try.call30, fun ρ wb w R hM _ => ?_⟩
  have hm := hM.mem
  simp only [star, sep_emp, rowU_den] at hm
  simp only [denL, sl0]
  refine (Load_no w (ρ 0) L.length cap L hm.p1.row_sl hn).mono ?_
  rintro e w' ⟨rfl, rfl⟩
  exact ⟨ρ, .tup [.raw (.pointer none), .raw (.int .i64 83)], P, _, fun _ _ => rfl, rfl, by simp only [SV.ok, okL, and_self], hM, Hp.le_refl P, rfl, rfl, rfl⟩
end Go.Proofs.Ytpdppacafkdgdaa
