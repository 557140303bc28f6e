/- The law's plays (lethelaw08), by the engine: each step on a disk and on the reference's. -/
import Derived.Test.YtpdppacafkdgdaaBl
set_option linter.unusedVariables false
set_option linter.unusedSimpArgs false
namespace Go.Proofs.Ytpdppacafkdgdaa
open Go Go.RowKit Go.Le Go.Eng
/-- a disk within the law's bounds: t calls at most -/
structure Fit (D : Dev) (t : Nat) : Prop where
  ok : D.ok
  c0 : 0 ≤ D.calls
  c1 : D.calls ≤ (t : Int)
  p1 : D.pend.length ≤ t
theorem Fit.mono {D : Dev} {t u : Nat} (h : Fit D t) (hu : t ≤ u) : Fit D u := ⟨h.ok, h.c0, by have := h.c1; omega, by have := h.p1; omega⟩
theorem Fit.img {D : Dev} {t : Nat} (h : Fit D t) : D.img.length ≤ 2097152 := by obtain ⟨n, h, h1, h2⟩ := h.ok.img; omega
theorem Dev.fall_len {D : Dev} (h : D.ok) (l : Loss) : (D.fall l).img.length = D.img.length := fallFrom_length l 0 D.img D.pend h.pend
theorem Fit.fall {D : Dev} {t : Nat} (h : Fit D t) (l : Loss) : Fit (D.fall l) t := ⟨Dev.fall_ok h.ok l, h.c0, h.c1, Nat.zero_le _⟩
theorem Fit.up {D : Dev} {t : Nat} (h : Fit D t) : Fit D.up t := ⟨Dev.up_ok h.ok, h.c0, h.c1, h.p1⟩
theorem Fit.count {D : Dev} {t : Nat} (h : Fit D t) (ht : t ≤ 1000000) : Fit D.count (t + 1) := by
  have h1 := h.c1
  have h0 := h.c0
  have e : D.count.calls = D.calls + 1 := by show wrap64 (D.calls + 1) = _; unfold wrap64; omega
  exact ⟨Dev.count_ok h.ok, by rw [e]; omega, by rw [e]; omega, by have := h.p1; show D.pend.length ≤ _; omega⟩
theorem Fit.arm {D : Dev} {t : Nat} (h : Fit D t) (s : Int) (s2 : s ≤ 9223372036854775807) (l : Loss) (hl : l.ok) : Fit (D.arm s l).1 t ∧ (D.arm s l).1.img = D.img ∧ (D.arm s l).1.pend = D.pend := by
  unfold Dev.arm
  split
  · exact ⟨h, rfl, rfl⟩
  · split
    · exact ⟨h, rfl, rfl⟩
    · rename_i h1 h2
      exact ⟨⟨⟨h.ok.img, h.ok.pend, ⟨by show 0 ≤ s; omega, s2⟩, hl.torn, hl.off, hl.keep, h.ok.calls⟩, h.c0, h.c1, h.p1⟩, rfl, rfl⟩
theorem Fit.crash {D : Dev} {t : Nat} (h : Fit D t) (l : Loss) : Fit (D.crash l).1 t ∧ (D.crash l).1.img.length = D.img.length := by
  unfold Dev.crash
  split
  · exact ⟨h, rfl⟩
  · exact ⟨h.fall l, Dev.fall_len h.ok l⟩
theorem Fit.flush {D : Dev} {t : Nat} (h : Fit D t) (ht : t ≤ 1000000) : Fit D.flush.1 (t + 1) ∧ D.flush.1.img.length = D.img.length := by
  have hc := h.count ht
  unfold Dev.flush
  split
  · exact ⟨h.mono (by omega), rfl⟩
  · split
    · exact ⟨hc.fall _, Dev.fall_len hc.ok _⟩
    · exact ⟨⟨flushed_ok h.ok, hc.c0, hc.c1, Nat.zero_le _⟩, flushed_length _ _ h.ok.pend⟩
theorem Fit.write {D : Dev} {t : Nat} (h : Fit D t) (ht : t ≤ 1000000) (i : Int) (b : List UInt8) : Fit (D.write i b).1 (t + 1) ∧ (D.write i b).1.img.length = D.img.length := by
  unfold Dev.write
  split
  · exact ⟨h.mono (by omega), rfl⟩
  · rename_i ha
    split
    · exact ⟨h.mono (by omega), rfl⟩
    · rename_i hb
      have ha0 : D.asked i = 0 := Decidable.not_not.1 ha
      obtain ⟨hd, i0, hi⟩ := asked_zero ha0
      have hp : (Dev.push D i.toNat b).ok := Dev.push_ok h.ok (by omega) (by omega)
      have h1 := h.c1
      have h0 := h.c0
      have e : (Dev.push D i.toNat b).count.calls = D.calls + 1 := by show wrap64 (D.calls + 1) = _; unfold wrap64; omega
      have hc : Fit (Dev.push D i.toNat b).count (t + 1) := ⟨Dev.count_ok hp, by rw [e]; omega, by rw [e]; omega, by
        have := h.p1
        show (D.pend ++ [(i.toNat, b)]).length ≤ _
        rw [List.length_append]; show D.pend.length + 1 ≤ _; omega⟩
      show Fit (if (Dev.push D i.toNat b).fires then ((Dev.push D i.toNat b).count.fall D.loss, 80) else ((Dev.push D i.toNat b).count, (0 : Int))).1 (t + 1) ∧ (if (Dev.push D i.toNat b).fires then ((Dev.push D i.toNat b).count.fall D.loss, 80) else ((Dev.push D i.toNat b).count, (0 : Int))).1.img.length = D.img.length
      split
      · exact ⟨hc.fall _, Dev.fall_len hc.ok _⟩
      · exact ⟨hc, rfl⟩
/-- a step, as it is read -/
structure Sp8 where
  kind : Int
  which : Int
  i : Int
  fill : UInt8
  ba : Option Addr
  bc : Nat
  b : List UInt8
  la : Option Addr
  lc : Nat
  loss : Loss
structure Sp8.ok (s : Sp8) : Prop where
  kind : -9223372036854775808 ≤ s.kind ∧ s.kind ≤ 9223372036854775807
  i : -9223372036854775808 ≤ s.i ∧ s.i ≤ 9223372036854775807
  b : s.b.length ≤ 1000000000
  loss : s.loss.ok
  keep : s.loss.keep.length ≤ 1000000000
abbrev stV (s : Sp8) : SV := .agg [.raw (.int .i64 s.kind), .raw (.int .i64 s.which), .raw (.int .i64 s.i), .raw (.int .u8 (s.fill.toNat : Int)), .bs s.ba s.bc s.b, .rs s.la s.lc (keepC s.loss.keep), .raw (.int .i64 s.loss.torn), .raw (.int .i64 s.loss.off)]
/-- what a step leaves of the two disks -/
def St2 (P : Hp) (bc : Nat) (t n : Nat) (x : SV) (H : List Ck) : Prop := ∃ lc' ka' kc' zs' D', Fit D' t ∧ D'.img.length = n ∧ zs'.map Pr.p = D'.pend ∧ x = .raw (.bool true) ∧ H = dC 0 D' :: rH bc lc' D' ka' kc' D'.img zs'
theorem keep_take (l : Loss) : (l.keep ++ [0, 0]).take l.keep.length = l.keep := List.take_left
set_option maxRecDepth 100000 in
set_option maxHeartbeats 4000000 in
theorem fails_con (P : Hp) (bc lc : Nat) (D : Dev) (t : Nat) (hD : Fit D t) (ht : t ≤ 100000) (ka : Option Addr) (kc : Nat) (zs : List Pr) (hz : zs.map Pr.p = D.pend) (s : Sp8) (hs : s.ok) :
    Con Try.prog [0, 300, 301] 49 [.ptr 0 0, .ptr 300 0, stV s] P (dC 0 D :: rH bc lc D ka kc D.img zs) fun x P' H' => St2 P' bc t D.img.length x H' := by
  have hzl : zs.length ≤ 100000 := by rw [← List.length_map (f := Pr.p), hz]; exact Nat.le_trans hD.p1 ht
  have hpl : D.pend.length ≤ 1000000000 := by have := hD.p1; omega
  have hsn : (s.fill.toNat : Int) ≤ 255 := by have := s.fill.toNat_lt; omega
  refine Con.sub (Con.ren (con_of_fun T_good (by kernel_rfl) Try.call49 Try.func49 (by kernel_rfl) (by show 3 ≤ _; decide +kernel) ?_))
  ((set_option smartUnfolding false in conv => whnf) <;> (repeat (first | exact True.intro | ((first | refine ⟨rfl, ?_⟩ | refine ar (by omega) (by omega) ?_ | refine ar8 (by omega) (by omega) ?_ | refine ix (by omega) ?_ | refine IdxVC.mk 0 rfl (by omega) ?_ | refine BytesVC.mk _ rfl ?_ | refine DivVC.mk (by omega) (by omega) ?_ | refine RemVC.mk (by omega) (by omega) ?_ | refine GhVC.mk _ _ _ rfl ?_); set_option smartUnfolding false in conv => whnf))))
  refine call_conR [(540, 540)] (twin_con _ s.loss s.la s.lc hs.keep) ?_
  ((set_option smartUnfolding false in conv => whnf) <;> (repeat (first | exact True.intro | ((first | refine ⟨rfl, ?_⟩ | refine ar (by omega) (by omega) ?_ | refine ar8 (by omega) (by omega) ?_ | refine ix (by omega) ?_ | refine IdxVC.mk 0 rfl (by omega) ?_ | refine BytesVC.mk _ rfl ?_ | refine DivVC.mk (by omega) (by omega) ?_ | refine RemVC.mk (by omega) (by omega) ?_ | refine GhVC.mk _ _ _ rfl ?_); set_option smartUnfolding false in conv => whnf))))
  rintro x P1 H' - ⟨rfl, rfl, rfl⟩
  ((set_option smartUnfolding false in conv => whnf) <;> (repeat (first | exact True.intro | ((first | refine ⟨rfl, ?_⟩ | refine ar (by omega) (by omega) ?_ | refine ar8 (by omega) (by omega) ?_ | refine ix (by omega) ?_ | refine IdxVC.mk 0 rfl (by omega) ?_ | refine BytesVC.mk _ rfl ?_ | refine DivVC.mk (by omega) (by omega) ?_ | refine RemVC.mk (by omega) (by omega) ?_ | refine GhVC.mk _ _ _ rfl ?_); set_option smartUnfolding false in conv => whnf))))
  refine bxd (fun hk => ?_) (fun hk => ?_)
  · obtain ⟨q, hq⟩ : ∃ q, q = D.arm (s.fill.toNat : Int) s.loss := ⟨_, rfl⟩
    have h1 := fun P cap => ArmR_con P D (s.fill.toNat : Int) (by have := hs.i; omega) (by have := hs.i; omega) s.loss hs.loss hs.keep (s.loss.keep ++ [0, 0]) (keep_take s.loss) cap
    have h2 := fun P => RArm_con P bc lc D ka kc (s.fill.toNat : Int) (by have := hs.i; omega) (by have := hs.i; omega) s.loss hs.loss s.la s.lc hs.keep
    obtain ⟨hf, him, hpe⟩ := hD.arm (s.fill.toNat : Int) (by have := hs.i; omega) s.loss hs.loss
    rw [← hq] at h1 h2 hf him hpe
    ((set_option smartUnfolding false in conv => whnf) <;> (repeat (first | exact True.intro | ((first | refine ⟨rfl, ?_⟩ | refine ar (by omega) (by omega) ?_ | refine ar8 (by omega) (by omega) ?_ | refine ix (by omega) ?_ | refine IdxVC.mk 0 rfl (by omega) ?_ | refine BytesVC.mk _ rfl ?_ | refine DivVC.mk (by omega) (by omega) ?_ | refine RemVC.mk (by omega) (by omega) ?_ | refine GhVC.mk _ _ _ rfl ?_); set_option smartUnfolding false in conv => whnf))))
    refine call_con (N := []) (h1 _ (s.loss.keep.length + 2)) ?_
    ((set_option smartUnfolding false in conv => whnf) <;> (repeat (first | exact True.intro | ((first | refine ⟨rfl, ?_⟩ | refine ar (by omega) (by omega) ?_ | refine ar8 (by omega) (by omega) ?_ | refine ix (by omega) ?_ | refine IdxVC.mk 0 rfl (by omega) ?_ | refine BytesVC.mk _ rfl ?_ | refine DivVC.mk (by omega) (by omega) ?_ | refine RemVC.mk (by omega) (by omega) ?_ | refine GhVC.mk _ _ _ rfl ?_); set_option smartUnfolding false in conv => whnf))))
    rintro x P2 H' - ⟨rfl, rfl, rfl⟩
    ((set_option smartUnfolding false in conv => whnf) <;> (repeat (first | exact True.intro | ((first | refine ⟨rfl, ?_⟩ | refine ar (by omega) (by omega) ?_ | refine ar8 (by omega) (by omega) ?_ | refine ix (by omega) ?_ | refine IdxVC.mk 0 rfl (by omega) ?_ | refine BytesVC.mk _ rfl ?_ | refine DivVC.mk (by omega) (by omega) ?_ | refine RemVC.mk (by omega) (by omega) ?_ | refine GhVC.mk _ _ _ rfl ?_); set_option smartUnfolding false in conv => whnf))))
    refine call_con (N := []) (h2 _) ?_
    ((set_option smartUnfolding false in conv => whnf) <;> (repeat (first | exact True.intro | ((first | refine ⟨rfl, ?_⟩ | refine ar (by omega) (by omega) ?_ | refine ar8 (by omega) (by omega) ?_ | refine ix (by omega) ?_ | refine IdxVC.mk 0 rfl (by omega) ?_ | refine BytesVC.mk _ rfl ?_ | refine DivVC.mk (by omega) (by omega) ?_ | refine RemVC.mk (by omega) (by omega) ?_ | refine GhVC.mk _ _ _ rfl ?_); set_option smartUnfolding false in conv => whnf))))
    rintro x P3 H' - ⟨ka', kc', rfl, rfl⟩
    ((set_option smartUnfolding false in conv => whnf) <;> (repeat (first | exact True.intro | ((first | refine ⟨rfl, ?_⟩ | refine ar (by omega) (by omega) ?_ | refine ar8 (by omega) (by omega) ?_ | refine ix (by omega) ?_ | refine IdxVC.mk 0 rfl (by omega) ?_ | refine BytesVC.mk _ rfl ?_ | refine DivVC.mk (by omega) (by omega) ?_ | refine RemVC.mk (by omega) (by omega) ?_ | refine GhVC.mk _ _ _ rfl ?_); set_option smartUnfolding false in conv => whnf))))
    refine call_con (N := []) (sameKeep_con _ s.loss s.la s.lc (s.loss.keep.length + 2) hs.keep) ?_
    ((set_option smartUnfolding false in conv => whnf) <;> (repeat (first | exact True.intro | ((first | refine ⟨rfl, ?_⟩ | refine ar (by omega) (by omega) ?_ | refine ar8 (by omega) (by omega) ?_ | refine ix (by omega) ?_ | refine IdxVC.mk 0 rfl (by omega) ?_ | refine BytesVC.mk _ rfl ?_ | refine DivVC.mk (by omega) (by omega) ?_ | refine RemVC.mk (by omega) (by omega) ?_ | refine GhVC.mk _ _ _ rfl ?_); set_option smartUnfolding false in conv => whnf))))
    rintro x P6 H' - ⟨rfl, rfl, rfl⟩
    ((set_option smartUnfolding false in conv => whnf) <;> (repeat (first | exact True.intro | ((first | refine ⟨rfl, ?_⟩ | refine ar (by omega) (by omega) ?_ | refine ar8 (by omega) (by omega) ?_ | refine ix (by omega) ?_ | refine IdxVC.mk 0 rfl (by omega) ?_ | refine BytesVC.mk _ rfl ?_ | refine DivVC.mk (by omega) (by omega) ?_ | refine RemVC.mk (by omega) (by omega) ?_ | refine GhVC.mk _ _ _ rfl ?_); set_option smartUnfolding false in conv => whnf))))
    refine call_con (N := []) (spoil_con _ s.loss (s.loss.keep.length + 2) hs.keep (Nat.le_refl _)) ?_
    ((set_option smartUnfolding false in conv => whnf) <;> (repeat (first | exact True.intro | ((first | refine ⟨rfl, ?_⟩ | refine ar (by omega) (by omega) ?_ | refine ar8 (by omega) (by omega) ?_ | refine ix (by omega) ?_ | refine IdxVC.mk 0 rfl (by omega) ?_ | refine BytesVC.mk _ rfl ?_ | refine DivVC.mk (by omega) (by omega) ?_ | refine RemVC.mk (by omega) (by omega) ?_ | refine GhVC.mk _ _ _ rfl ?_); set_option smartUnfolding false in conv => whnf))))
    rintro x P7 H' - ⟨rfl, rfl, rfl⟩
    ((set_option smartUnfolding false in conv => whnf) <;> (repeat (first | exact True.intro | ((first | refine ⟨rfl, ?_⟩ | refine ar (by omega) (by omega) ?_ | refine ar8 (by omega) (by omega) ?_ | refine ix (by omega) ?_ | refine IdxVC.mk 0 rfl (by omega) ?_ | refine BytesVC.mk _ rfl ?_ | refine DivVC.mk (by omega) (by omega) ?_ | refine RemVC.mk (by omega) (by omega) ?_ | refine GhVC.mk _ _ _ rfl ?_); set_option smartUnfolding false in conv => whnf))))
    refine bxd (fun _ => ?_) (fun h => (h rfl).elim)
    ((set_option smartUnfolding false in conv => whnf) <;> (repeat (first | exact True.intro | ((first | refine ⟨rfl, ?_⟩ | refine ar (by omega) (by omega) ?_ | refine ar8 (by omega) (by omega) ?_ | refine ix (by omega) ?_ | refine IdxVC.mk 0 rfl (by omega) ?_ | refine BytesVC.mk _ rfl ?_ | refine DivVC.mk (by omega) (by omega) ?_ | refine RemVC.mk (by omega) (by omega) ?_ | refine GhVC.mk _ _ _ rfl ?_); set_option smartUnfolding false in conv => whnf))))
    refine ⟨[(0, 0), (300, 300), (301, 301), (302, 302), (5, 601), (7, 602), (540, 540)], rfl, rfl, ?_⟩
    ((set_option smartUnfolding false in conv => whnf) <;> (repeat (first | exact True.intro | ((first | refine ⟨rfl, ?_⟩ | refine ar (by omega) (by omega) ?_ | refine ar8 (by omega) (by omega) ?_ | refine ix (by omega) ?_ | refine IdxVC.mk 0 rfl (by omega) ?_ | refine BytesVC.mk _ rfl ?_ | refine DivVC.mk (by omega) (by omega) ?_ | refine RemVC.mk (by omega) (by omega) ?_ | refine GhVC.mk _ _ _ rfl ?_); set_option smartUnfolding false in conv => whnf))))
    have hpel : q.1.pend.length = D.pend.length := by rw [hpe]
    have hfin : [dC 0 q.1, rB bc lc q.1 ka' kc', .row 301 5 bc (Eng.bytes D.img), .row 302 76 lc (pdC zs)] = dC 0 q.1 :: rH bc lc q.1 ka' kc' q.1.img zs := by rw [him]
    refine ⟨[dC 0 q.1, rB bc lc q.1 ka' kc', .row 301 5 bc (Eng.bytes D.img), .row 302 76 lc (pdC zs)], ?_⟩
    ((set_option smartUnfolding false in conv => whnf) <;> (repeat (first | exact True.intro | ((first | refine ⟨rfl, ?_⟩ | refine ar (by omega) (by omega) ?_ | refine ar8 (by omega) (by omega) ?_ | refine ix (by omega) ?_ | refine IdxVC.mk 0 rfl (by omega) ?_ | refine BytesVC.mk _ rfl ?_ | refine DivVC.mk (by omega) (by omega) ?_ | refine RemVC.mk (by omega) (by omega) ?_ | refine GhVC.mk _ _ _ rfl ?_); set_option smartUnfolding false in conv => whnf))))
    exact ⟨lc, ka', kc', zs, q.1, hf, by rw [him], by rw [hpe]; exact hz, rfl, hfin⟩
  · ((set_option smartUnfolding false in conv => whnf) <;> (repeat (first | exact True.intro | ((first | refine ⟨rfl, ?_⟩ | refine ar (by omega) (by omega) ?_ | refine ar8 (by omega) (by omega) ?_ | refine ix (by omega) ?_ | refine IdxVC.mk 0 rfl (by omega) ?_ | refine BytesVC.mk _ rfl ?_ | refine DivVC.mk (by omega) (by omega) ?_ | refine RemVC.mk (by omega) (by omega) ?_ | refine GhVC.mk _ _ _ rfl ?_); set_option smartUnfolding false in conv => whnf))))
    refine bxd (fun hk => ?_) (fun hk => ?_)
    · obtain ⟨q, hq⟩ : ∃ q, q = D.arm s.i s.loss := ⟨_, rfl⟩
      have h1 := fun P cap => ArmR_con P D s.i (by have := hs.i; omega) (by have := hs.i; omega) s.loss hs.loss hs.keep (s.loss.keep ++ [0, 0]) (keep_take s.loss) cap
      have h2 := fun P => RArm_con P bc lc D ka kc s.i (by have := hs.i; omega) (by have := hs.i; omega) s.loss hs.loss s.la s.lc hs.keep
      obtain ⟨hf, him, hpe⟩ := hD.arm s.i (by have := hs.i; omega) s.loss hs.loss
      rw [← hq] at h1 h2 hf him hpe
      ((set_option smartUnfolding false in conv => whnf) <;> (repeat (first | exact True.intro | ((first | refine ⟨rfl, ?_⟩ | refine ar (by omega) (by omega) ?_ | refine ar8 (by omega) (by omega) ?_ | refine ix (by omega) ?_ | refine IdxVC.mk 0 rfl (by omega) ?_ | refine BytesVC.mk _ rfl ?_ | refine DivVC.mk (by omega) (by omega) ?_ | refine RemVC.mk (by omega) (by omega) ?_ | refine GhVC.mk _ _ _ rfl ?_); set_option smartUnfolding false in conv => whnf))))
      refine call_con (N := []) (h1 _ (s.loss.keep.length + 2)) ?_
      ((set_option smartUnfolding false in conv => whnf) <;> (repeat (first | exact True.intro | ((first | refine ⟨rfl, ?_⟩ | refine ar (by omega) (by omega) ?_ | refine ar8 (by omega) (by omega) ?_ | refine ix (by omega) ?_ | refine IdxVC.mk 0 rfl (by omega) ?_ | refine BytesVC.mk _ rfl ?_ | refine DivVC.mk (by omega) (by omega) ?_ | refine RemVC.mk (by omega) (by omega) ?_ | refine GhVC.mk _ _ _ rfl ?_); set_option smartUnfolding false in conv => whnf))))
      rintro x P2 H' - ⟨rfl, rfl, rfl⟩
      ((set_option smartUnfolding false in conv => whnf) <;> (repeat (first | exact True.intro | ((first | refine ⟨rfl, ?_⟩ | refine ar (by omega) (by omega) ?_ | refine ar8 (by omega) (by omega) ?_ | refine ix (by omega) ?_ | refine IdxVC.mk 0 rfl (by omega) ?_ | refine BytesVC.mk _ rfl ?_ | refine DivVC.mk (by omega) (by omega) ?_ | refine RemVC.mk (by omega) (by omega) ?_ | refine GhVC.mk _ _ _ rfl ?_); set_option smartUnfolding false in conv => whnf))))
      refine call_con (N := []) (h2 _) ?_
      ((set_option smartUnfolding false in conv => whnf) <;> (repeat (first | exact True.intro | ((first | refine ⟨rfl, ?_⟩ | refine ar (by omega) (by omega) ?_ | refine ar8 (by omega) (by omega) ?_ | refine ix (by omega) ?_ | refine IdxVC.mk 0 rfl (by omega) ?_ | refine BytesVC.mk _ rfl ?_ | refine DivVC.mk (by omega) (by omega) ?_ | refine RemVC.mk (by omega) (by omega) ?_ | refine GhVC.mk _ _ _ rfl ?_); set_option smartUnfolding false in conv => whnf))))
      rintro x P3 H' - ⟨ka', kc', rfl, rfl⟩
      ((set_option smartUnfolding false in conv => whnf) <;> (repeat (first | exact True.intro | ((first | refine ⟨rfl, ?_⟩ | refine ar (by omega) (by omega) ?_ | refine ar8 (by omega) (by omega) ?_ | refine ix (by omega) ?_ | refine IdxVC.mk 0 rfl (by omega) ?_ | refine BytesVC.mk _ rfl ?_ | refine DivVC.mk (by omega) (by omega) ?_ | refine RemVC.mk (by omega) (by omega) ?_ | refine GhVC.mk _ _ _ rfl ?_); set_option smartUnfolding false in conv => whnf))))
      refine call_con (N := []) (sameKeep_con _ s.loss s.la s.lc (s.loss.keep.length + 2) hs.keep) ?_
      ((set_option smartUnfolding false in conv => whnf) <;> (repeat (first | exact True.intro | ((first | refine ⟨rfl, ?_⟩ | refine ar (by omega) (by omega) ?_ | refine ar8 (by omega) (by omega) ?_ | refine ix (by omega) ?_ | refine IdxVC.mk 0 rfl (by omega) ?_ | refine BytesVC.mk _ rfl ?_ | refine DivVC.mk (by omega) (by omega) ?_ | refine RemVC.mk (by omega) (by omega) ?_ | refine GhVC.mk _ _ _ rfl ?_); set_option smartUnfolding false in conv => whnf))))
      rintro x P6 H' - ⟨rfl, rfl, rfl⟩
      ((set_option smartUnfolding false in conv => whnf) <;> (repeat (first | exact True.intro | ((first | refine ⟨rfl, ?_⟩ | refine ar (by omega) (by omega) ?_ | refine ar8 (by omega) (by omega) ?_ | refine ix (by omega) ?_ | refine IdxVC.mk 0 rfl (by omega) ?_ | refine BytesVC.mk _ rfl ?_ | refine DivVC.mk (by omega) (by omega) ?_ | refine RemVC.mk (by omega) (by omega) ?_ | refine GhVC.mk _ _ _ rfl ?_); set_option smartUnfolding false in conv => whnf))))
      refine call_con (N := []) (spoil_con _ s.loss (s.loss.keep.length + 2) hs.keep (Nat.le_refl _)) ?_
      ((set_option smartUnfolding false in conv => whnf) <;> (repeat (first | exact True.intro | ((first | refine ⟨rfl, ?_⟩ | refine ar (by omega) (by omega) ?_ | refine ar8 (by omega) (by omega) ?_ | refine ix (by omega) ?_ | refine IdxVC.mk 0 rfl (by omega) ?_ | refine BytesVC.mk _ rfl ?_ | refine DivVC.mk (by omega) (by omega) ?_ | refine RemVC.mk (by omega) (by omega) ?_ | refine GhVC.mk _ _ _ rfl ?_); set_option smartUnfolding false in conv => whnf))))
      rintro x P7 H' - ⟨rfl, rfl, rfl⟩
      ((set_option smartUnfolding false in conv => whnf) <;> (repeat (first | exact True.intro | ((first | refine ⟨rfl, ?_⟩ | refine ar (by omega) (by omega) ?_ | refine ar8 (by omega) (by omega) ?_ | refine ix (by omega) ?_ | refine IdxVC.mk 0 rfl (by omega) ?_ | refine BytesVC.mk _ rfl ?_ | refine DivVC.mk (by omega) (by omega) ?_ | refine RemVC.mk (by omega) (by omega) ?_ | refine GhVC.mk _ _ _ rfl ?_); set_option smartUnfolding false in conv => whnf))))
      refine bxd (fun _ => ?_) (fun h => (h rfl).elim)
      ((set_option smartUnfolding false in conv => whnf) <;> (repeat (first | exact True.intro | ((first | refine ⟨rfl, ?_⟩ | refine ar (by omega) (by omega) ?_ | refine ar8 (by omega) (by omega) ?_ | refine ix (by omega) ?_ | refine IdxVC.mk 0 rfl (by omega) ?_ | refine BytesVC.mk _ rfl ?_ | refine DivVC.mk (by omega) (by omega) ?_ | refine RemVC.mk (by omega) (by omega) ?_ | refine GhVC.mk _ _ _ rfl ?_); set_option smartUnfolding false in conv => whnf))))
      refine ⟨[(0, 0), (300, 300), (301, 301), (302, 302), (5, 601), (7, 602), (540, 540)], rfl, rfl, ?_⟩
      ((set_option smartUnfolding false in conv => whnf) <;> (repeat (first | exact True.intro | ((first | refine ⟨rfl, ?_⟩ | refine ar (by omega) (by omega) ?_ | refine ar8 (by omega) (by omega) ?_ | refine ix (by omega) ?_ | refine IdxVC.mk 0 rfl (by omega) ?_ | refine BytesVC.mk _ rfl ?_ | refine DivVC.mk (by omega) (by omega) ?_ | refine RemVC.mk (by omega) (by omega) ?_ | refine GhVC.mk _ _ _ rfl ?_); set_option smartUnfolding false in conv => whnf))))
      have hpel : q.1.pend.length = D.pend.length := by rw [hpe]
      have hfin : [dC 0 q.1, rB bc lc q.1 ka' kc', .row 301 5 bc (Eng.bytes D.img), .row 302 76 lc (pdC zs)] = dC 0 q.1 :: rH bc lc q.1 ka' kc' q.1.img zs := by rw [him]
      refine ⟨[dC 0 q.1, rB bc lc q.1 ka' kc', .row 301 5 bc (Eng.bytes D.img), .row 302 76 lc (pdC zs)], ?_⟩
      ((set_option smartUnfolding false in conv => whnf) <;> (repeat (first | exact True.intro | ((first | refine ⟨rfl, ?_⟩ | refine ar (by omega) (by omega) ?_ | refine ar8 (by omega) (by omega) ?_ | refine ix (by omega) ?_ | refine IdxVC.mk 0 rfl (by omega) ?_ | refine BytesVC.mk _ rfl ?_ | refine DivVC.mk (by omega) (by omega) ?_ | refine RemVC.mk (by omega) (by omega) ?_ | refine GhVC.mk _ _ _ rfl ?_); set_option smartUnfolding false in conv => whnf))))
      exact ⟨lc, ka', kc', zs, q.1, hf, by rw [him], by rw [hpe]; exact hz, rfl, hfin⟩
    · ((set_option smartUnfolding false in conv => whnf) <;> (repeat (first | exact True.intro | ((first | refine ⟨rfl, ?_⟩ | refine ar (by omega) (by omega) ?_ | refine ar8 (by omega) (by omega) ?_ | refine ix (by omega) ?_ | refine IdxVC.mk 0 rfl (by omega) ?_ | refine BytesVC.mk _ rfl ?_ | refine DivVC.mk (by omega) (by omega) ?_ | refine RemVC.mk (by omega) (by omega) ?_ | refine GhVC.mk _ _ _ rfl ?_); set_option smartUnfolding false in conv => whnf))))
      refine bxd (fun hk => ?_) (fun hk => ?_)
      · have h1 := fun P cap => CrashR_con P D hpl s.loss hs.loss (s.loss.keep ++ [0, 0]) (keep_take s.loss) cap
        cases hd : D.down with
        | true =>
          have hcr : D.crash s.loss = (D, 80) := by unfold Dev.crash; rw [hd, if_pos rfl]
          rw [hcr] at h1
          ((set_option smartUnfolding false in conv => whnf) <;> (repeat (first | exact True.intro | ((first | refine ⟨rfl, ?_⟩ | refine ar (by omega) (by omega) ?_ | refine ar8 (by omega) (by omega) ?_ | refine ix (by omega) ?_ | refine IdxVC.mk 0 rfl (by omega) ?_ | refine BytesVC.mk _ rfl ?_ | refine DivVC.mk (by omega) (by omega) ?_ | refine RemVC.mk (by omega) (by omega) ?_ | refine GhVC.mk _ _ _ rfl ?_); set_option smartUnfolding false in conv => whnf))))
          refine call_con (N := []) (h1 _ (s.loss.keep.length + 2)) ?_
          ((set_option smartUnfolding false in conv => whnf) <;> (repeat (first | exact True.intro | ((first | refine ⟨rfl, ?_⟩ | refine ar (by omega) (by omega) ?_ | refine ar8 (by omega) (by omega) ?_ | refine ix (by omega) ?_ | refine IdxVC.mk 0 rfl (by omega) ?_ | refine BytesVC.mk _ rfl ?_ | refine DivVC.mk (by omega) (by omega) ?_ | refine RemVC.mk (by omega) (by omega) ?_ | refine GhVC.mk _ _ _ rfl ?_); set_option smartUnfolding false in conv => whnf))))
          rintro x P2 H' - ⟨rfl, rfl, rfl⟩
          ((set_option smartUnfolding false in conv => whnf) <;> (repeat (first | exact True.intro | ((first | refine ⟨rfl, ?_⟩ | refine ar (by omega) (by omega) ?_ | refine ar8 (by omega) (by omega) ?_ | refine ix (by omega) ?_ | refine IdxVC.mk 0 rfl (by omega) ?_ | refine BytesVC.mk _ rfl ?_ | refine DivVC.mk (by omega) (by omega) ?_ | refine RemVC.mk (by omega) (by omega) ?_ | refine GhVC.mk _ _ _ rfl ?_); set_option smartUnfolding false in conv => whnf))))
          refine call_con (N := []) (RCrashE_con _ bc lc D hd ka kc s.loss s.la s.lc) ?_
          ((set_option smartUnfolding false in conv => whnf) <;> (repeat (first | exact True.intro | ((first | refine ⟨rfl, ?_⟩ | refine ar (by omega) (by omega) ?_ | refine ar8 (by omega) (by omega) ?_ | refine ix (by omega) ?_ | refine IdxVC.mk 0 rfl (by omega) ?_ | refine BytesVC.mk _ rfl ?_ | refine DivVC.mk (by omega) (by omega) ?_ | refine RemVC.mk (by omega) (by omega) ?_ | refine GhVC.mk _ _ _ rfl ?_); set_option smartUnfolding false in conv => whnf))))
          rintro x P3 H' - ⟨rfl, rfl, rfl⟩
          ((set_option smartUnfolding false in conv => whnf) <;> (repeat (first | exact True.intro | ((first | refine ⟨rfl, ?_⟩ | refine ar (by omega) (by omega) ?_ | refine ar8 (by omega) (by omega) ?_ | refine ix (by omega) ?_ | refine IdxVC.mk 0 rfl (by omega) ?_ | refine BytesVC.mk _ rfl ?_ | refine DivVC.mk (by omega) (by omega) ?_ | refine RemVC.mk (by omega) (by omega) ?_ | refine GhVC.mk _ _ _ rfl ?_); set_option smartUnfolding false in conv => whnf))))
          refine call_con (N := []) (sameKeep_con _ s.loss s.la s.lc (s.loss.keep.length + 2) hs.keep) ?_
          ((set_option smartUnfolding false in conv => whnf) <;> (repeat (first | exact True.intro | ((first | refine ⟨rfl, ?_⟩ | refine ar (by omega) (by omega) ?_ | refine ar8 (by omega) (by omega) ?_ | refine ix (by omega) ?_ | refine IdxVC.mk 0 rfl (by omega) ?_ | refine BytesVC.mk _ rfl ?_ | refine DivVC.mk (by omega) (by omega) ?_ | refine RemVC.mk (by omega) (by omega) ?_ | refine GhVC.mk _ _ _ rfl ?_); set_option smartUnfolding false in conv => whnf))))
          rintro x P6 H' - ⟨rfl, rfl, rfl⟩
          ((set_option smartUnfolding false in conv => whnf) <;> (repeat (first | exact True.intro | ((first | refine ⟨rfl, ?_⟩ | refine ar (by omega) (by omega) ?_ | refine ar8 (by omega) (by omega) ?_ | refine ix (by omega) ?_ | refine IdxVC.mk 0 rfl (by omega) ?_ | refine BytesVC.mk _ rfl ?_ | refine DivVC.mk (by omega) (by omega) ?_ | refine RemVC.mk (by omega) (by omega) ?_ | refine GhVC.mk _ _ _ rfl ?_); set_option smartUnfolding false in conv => whnf))))
          refine call_con (N := []) (spoil_con _ s.loss (s.loss.keep.length + 2) hs.keep (Nat.le_refl _)) ?_
          ((set_option smartUnfolding false in conv => whnf) <;> (repeat (first | exact True.intro | ((first | refine ⟨rfl, ?_⟩ | refine ar (by omega) (by omega) ?_ | refine ar8 (by omega) (by omega) ?_ | refine ix (by omega) ?_ | refine IdxVC.mk 0 rfl (by omega) ?_ | refine BytesVC.mk _ rfl ?_ | refine DivVC.mk (by omega) (by omega) ?_ | refine RemVC.mk (by omega) (by omega) ?_ | refine GhVC.mk _ _ _ rfl ?_); set_option smartUnfolding false in conv => whnf))))
          rintro x P7 H' - ⟨rfl, rfl, rfl⟩
          ((set_option smartUnfolding false in conv => whnf) <;> (repeat (first | exact True.intro | ((first | refine ⟨rfl, ?_⟩ | refine ar (by omega) (by omega) ?_ | refine ar8 (by omega) (by omega) ?_ | refine ix (by omega) ?_ | refine IdxVC.mk 0 rfl (by omega) ?_ | refine BytesVC.mk _ rfl ?_ | refine DivVC.mk (by omega) (by omega) ?_ | refine RemVC.mk (by omega) (by omega) ?_ | refine GhVC.mk _ _ _ rfl ?_); set_option smartUnfolding false in conv => whnf))))
          refine ⟨[(0, 0), (300, 300), (301, 301), (302, 302), (5, 601), (7, 602), (540, 540)], rfl, rfl, ?_⟩
          ((set_option smartUnfolding false in conv => whnf) <;> (repeat (first | exact True.intro | ((first | refine ⟨rfl, ?_⟩ | refine ar (by omega) (by omega) ?_ | refine ar8 (by omega) (by omega) ?_ | refine ix (by omega) ?_ | refine IdxVC.mk 0 rfl (by omega) ?_ | refine BytesVC.mk _ rfl ?_ | refine DivVC.mk (by omega) (by omega) ?_ | refine RemVC.mk (by omega) (by omega) ?_ | refine GhVC.mk _ _ _ rfl ?_); set_option smartUnfolding false in conv => whnf))))
          refine ⟨dC 0 D :: rH bc lc D ka kc D.img zs, ?_⟩
          ((set_option smartUnfolding false in conv => whnf) <;> (repeat (first | exact True.intro | ((first | refine ⟨rfl, ?_⟩ | refine ar (by omega) (by omega) ?_ | refine ar8 (by omega) (by omega) ?_ | refine ix (by omega) ?_ | refine IdxVC.mk 0 rfl (by omega) ?_ | refine BytesVC.mk _ rfl ?_ | refine DivVC.mk (by omega) (by omega) ?_ | refine RemVC.mk (by omega) (by omega) ?_ | refine GhVC.mk _ _ _ rfl ?_); set_option smartUnfolding false in conv => whnf))))
          exact ⟨lc, ka, kc, zs, D, hD, rfl, hz, rfl, rfl⟩
        | false =>
          have hcr : D.crash s.loss = (D.fall s.loss, 0) := by unfold Dev.crash; rw [hd, if_neg (by simp)]
          rw [hcr] at h1
          ((set_option smartUnfolding false in conv => whnf) <;> (repeat (first | exact True.intro | ((first | refine ⟨rfl, ?_⟩ | refine ar (by omega) (by omega) ?_ | refine ar8 (by omega) (by omega) ?_ | refine ix (by omega) ?_ | refine IdxVC.mk 0 rfl (by omega) ?_ | refine BytesVC.mk _ rfl ?_ | refine DivVC.mk (by omega) (by omega) ?_ | refine RemVC.mk (by omega) (by omega) ?_ | refine GhVC.mk _ _ _ rfl ?_); set_option smartUnfolding false in conv => whnf))))
          refine call_con (N := []) (h1 _ (s.loss.keep.length + 2)) ?_
          ((set_option smartUnfolding false in conv => whnf) <;> (repeat (first | exact True.intro | ((first | refine ⟨rfl, ?_⟩ | refine ar (by omega) (by omega) ?_ | refine ar8 (by omega) (by omega) ?_ | refine ix (by omega) ?_ | refine IdxVC.mk 0 rfl (by omega) ?_ | refine BytesVC.mk _ rfl ?_ | refine DivVC.mk (by omega) (by omega) ?_ | refine RemVC.mk (by omega) (by omega) ?_ | refine GhVC.mk _ _ _ rfl ?_); set_option smartUnfolding false in conv => whnf))))
          rintro x P2 H' - ⟨rfl, rfl, rfl⟩
          ((set_option smartUnfolding false in conv => whnf) <;> (repeat (first | exact True.intro | ((first | refine ⟨rfl, ?_⟩ | refine ar (by omega) (by omega) ?_ | refine ar8 (by omega) (by omega) ?_ | refine ix (by omega) ?_ | refine IdxVC.mk 0 rfl (by omega) ?_ | refine BytesVC.mk _ rfl ?_ | refine DivVC.mk (by omega) (by omega) ?_ | refine RemVC.mk (by omega) (by omega) ?_ | refine GhVC.mk _ _ _ rfl ?_); set_option smartUnfolding false in conv => whnf))))
          refine call_conR [(302, 302)] (RCrashH_con _ bc lc D hd hD.ok hD.img ka kc zs hz (by omega) s.loss hs.loss s.la s.lc) ?_
          ((set_option smartUnfolding false in conv => whnf) <;> (repeat (first | exact True.intro | ((first | refine ⟨rfl, ?_⟩ | refine ar (by omega) (by omega) ?_ | refine ar8 (by omega) (by omega) ?_ | refine ix (by omega) ?_ | refine IdxVC.mk 0 rfl (by omega) ?_ | refine BytesVC.mk _ rfl ?_ | refine DivVC.mk (by omega) (by omega) ?_ | refine RemVC.mk (by omega) (by omega) ?_ | refine GhVC.mk _ _ _ rfl ?_); set_option smartUnfolding false in conv => whnf))))
          rintro x P3 H' - ⟨rfl, rfl, rfl⟩
          ((set_option smartUnfolding false in conv => whnf) <;> (repeat (first | exact True.intro | ((first | refine ⟨rfl, ?_⟩ | refine ar (by omega) (by omega) ?_ | refine ar8 (by omega) (by omega) ?_ | refine ix (by omega) ?_ | refine IdxVC.mk 0 rfl (by omega) ?_ | refine BytesVC.mk _ rfl ?_ | refine DivVC.mk (by omega) (by omega) ?_ | refine RemVC.mk (by omega) (by omega) ?_ | refine GhVC.mk _ _ _ rfl ?_); set_option smartUnfolding false in conv => whnf))))
          refine call_con (N := []) (sameKeep_con _ s.loss s.la s.lc (s.loss.keep.length + 2) hs.keep) ?_
          ((set_option smartUnfolding false in conv => whnf) <;> (repeat (first | exact True.intro | ((first | refine ⟨rfl, ?_⟩ | refine ar (by omega) (by omega) ?_ | refine ar8 (by omega) (by omega) ?_ | refine ix (by omega) ?_ | refine IdxVC.mk 0 rfl (by omega) ?_ | refine BytesVC.mk _ rfl ?_ | refine DivVC.mk (by omega) (by omega) ?_ | refine RemVC.mk (by omega) (by omega) ?_ | refine GhVC.mk _ _ _ rfl ?_); set_option smartUnfolding false in conv => whnf))))
          rintro x P6 H' - ⟨rfl, rfl, rfl⟩
          ((set_option smartUnfolding false in conv => whnf) <;> (repeat (first | exact True.intro | ((first | refine ⟨rfl, ?_⟩ | refine ar (by omega) (by omega) ?_ | refine ar8 (by omega) (by omega) ?_ | refine ix (by omega) ?_ | refine IdxVC.mk 0 rfl (by omega) ?_ | refine BytesVC.mk _ rfl ?_ | refine DivVC.mk (by omega) (by omega) ?_ | refine RemVC.mk (by omega) (by omega) ?_ | refine GhVC.mk _ _ _ rfl ?_); set_option smartUnfolding false in conv => whnf))))
          refine call_con (N := []) (spoil_con _ s.loss (s.loss.keep.length + 2) hs.keep (Nat.le_refl _)) ?_
          ((set_option smartUnfolding false in conv => whnf) <;> (repeat (first | exact True.intro | ((first | refine ⟨rfl, ?_⟩ | refine ar (by omega) (by omega) ?_ | refine ar8 (by omega) (by omega) ?_ | refine ix (by omega) ?_ | refine IdxVC.mk 0 rfl (by omega) ?_ | refine BytesVC.mk _ rfl ?_ | refine DivVC.mk (by omega) (by omega) ?_ | refine RemVC.mk (by omega) (by omega) ?_ | refine GhVC.mk _ _ _ rfl ?_); set_option smartUnfolding false in conv => whnf))))
          rintro x P7 H' - ⟨rfl, rfl, rfl⟩
          ((set_option smartUnfolding false in conv => whnf) <;> (repeat (first | exact True.intro | ((first | refine ⟨rfl, ?_⟩ | refine ar (by omega) (by omega) ?_ | refine ar8 (by omega) (by omega) ?_ | refine ix (by omega) ?_ | refine IdxVC.mk 0 rfl (by omega) ?_ | refine BytesVC.mk _ rfl ?_ | refine DivVC.mk (by omega) (by omega) ?_ | refine RemVC.mk (by omega) (by omega) ?_ | refine GhVC.mk _ _ _ rfl ?_); set_option smartUnfolding false in conv => whnf))))
          refine ⟨[(0, 0), (300, 300), (301, 301), (302, 302), (5, 601), (7, 602), (540, 540)], rfl, rfl, ?_⟩
          ((set_option smartUnfolding false in conv => whnf) <;> (repeat (first | exact True.intro | ((first | refine ⟨rfl, ?_⟩ | refine ar (by omega) (by omega) ?_ | refine ar8 (by omega) (by omega) ?_ | refine ix (by omega) ?_ | refine IdxVC.mk 0 rfl (by omega) ?_ | refine BytesVC.mk _ rfl ?_ | refine DivVC.mk (by omega) (by omega) ?_ | refine RemVC.mk (by omega) (by omega) ?_ | refine GhVC.mk _ _ _ rfl ?_); set_option smartUnfolding false in conv => whnf))))
          refine ⟨dC 0 (D.fall s.loss) :: rH bc 0 (D.fall s.loss) ka kc (D.fall s.loss).img [], ?_⟩
          ((set_option smartUnfolding false in conv => whnf) <;> (repeat (first | exact True.intro | ((first | refine ⟨rfl, ?_⟩ | refine ar (by omega) (by omega) ?_ | refine ar8 (by omega) (by omega) ?_ | refine ix (by omega) ?_ | refine IdxVC.mk 0 rfl (by omega) ?_ | refine BytesVC.mk _ rfl ?_ | refine DivVC.mk (by omega) (by omega) ?_ | refine RemVC.mk (by omega) (by omega) ?_ | refine GhVC.mk _ _ _ rfl ?_); set_option smartUnfolding false in conv => whnf))))
          exact ⟨0, ka, kc, [], D.fall s.loss, hD.fall _, Dev.fall_len hD.ok _, rfl, rfl, rfl⟩
      · ((set_option smartUnfolding false in conv => whnf) <;> (repeat (first | exact True.intro | ((first | refine ⟨rfl, ?_⟩ | refine ar (by omega) (by omega) ?_ | refine ar8 (by omega) (by omega) ?_ | refine ix (by omega) ?_ | refine IdxVC.mk 0 rfl (by omega) ?_ | refine BytesVC.mk _ rfl ?_ | refine DivVC.mk (by omega) (by omega) ?_ | refine RemVC.mk (by omega) (by omega) ?_ | refine GhVC.mk _ _ _ rfl ?_); set_option smartUnfolding false in conv => whnf))))
        refine call_con (N := []) (Up_con _ D) ?_
        ((set_option smartUnfolding false in conv => whnf) <;> (repeat (first | exact True.intro | ((first | refine ⟨rfl, ?_⟩ | refine ar (by omega) (by omega) ?_ | refine ar8 (by omega) (by omega) ?_ | refine ix (by omega) ?_ | refine IdxVC.mk 0 rfl (by omega) ?_ | refine BytesVC.mk _ rfl ?_ | refine DivVC.mk (by omega) (by omega) ?_ | refine RemVC.mk (by omega) (by omega) ?_ | refine GhVC.mk _ _ _ rfl ?_); set_option smartUnfolding false in conv => whnf))))
        rintro x P2 H' - ⟨rfl, rfl, rfl⟩
        ((set_option smartUnfolding false in conv => whnf) <;> (repeat (first | exact True.intro | ((first | refine ⟨rfl, ?_⟩ | refine ar (by omega) (by omega) ?_ | refine ar8 (by omega) (by omega) ?_ | refine ix (by omega) ?_ | refine IdxVC.mk 0 rfl (by omega) ?_ | refine BytesVC.mk _ rfl ?_ | refine DivVC.mk (by omega) (by omega) ?_ | refine RemVC.mk (by omega) (by omega) ?_ | refine GhVC.mk _ _ _ rfl ?_); set_option smartUnfolding false in conv => whnf))))
        refine call_con (N := []) (RUp_con _ bc lc D ka kc) ?_
        ((set_option smartUnfolding false in conv => whnf) <;> (repeat (first | exact True.intro | ((first | refine ⟨rfl, ?_⟩ | refine ar (by omega) (by omega) ?_ | refine ar8 (by omega) (by omega) ?_ | refine ix (by omega) ?_ | refine IdxVC.mk 0 rfl (by omega) ?_ | refine BytesVC.mk _ rfl ?_ | refine DivVC.mk (by omega) (by omega) ?_ | refine RemVC.mk (by omega) (by omega) ?_ | refine GhVC.mk _ _ _ rfl ?_); set_option smartUnfolding false in conv => whnf))))
        rintro x P3 H' - ⟨rfl, rfl, rfl⟩
        ((set_option smartUnfolding false in conv => whnf) <;> (repeat (first | exact True.intro | ((first | refine ⟨rfl, ?_⟩ | refine ar (by omega) (by omega) ?_ | refine ar8 (by omega) (by omega) ?_ | refine ix (by omega) ?_ | refine IdxVC.mk 0 rfl (by omega) ?_ | refine BytesVC.mk _ rfl ?_ | refine DivVC.mk (by omega) (by omega) ?_ | refine RemVC.mk (by omega) (by omega) ?_ | refine GhVC.mk _ _ _ rfl ?_); set_option smartUnfolding false in conv => whnf))))
        refine call_con (N := []) (sameKeep_con _ s.loss s.la s.lc (s.loss.keep.length + 2) hs.keep) ?_
        ((set_option smartUnfolding false in conv => whnf) <;> (repeat (first | exact True.intro | ((first | refine ⟨rfl, ?_⟩ | refine ar (by omega) (by omega) ?_ | refine ar8 (by omega) (by omega) ?_ | refine ix (by omega) ?_ | refine IdxVC.mk 0 rfl (by omega) ?_ | refine BytesVC.mk _ rfl ?_ | refine DivVC.mk (by omega) (by omega) ?_ | refine RemVC.mk (by omega) (by omega) ?_ | refine GhVC.mk _ _ _ rfl ?_); set_option smartUnfolding false in conv => whnf))))
        rintro x P6 H' - ⟨rfl, rfl, rfl⟩
        ((set_option smartUnfolding false in conv => whnf) <;> (repeat (first | exact True.intro | ((first | refine ⟨rfl, ?_⟩ | refine ar (by omega) (by omega) ?_ | refine ar8 (by omega) (by omega) ?_ | refine ix (by omega) ?_ | refine IdxVC.mk 0 rfl (by omega) ?_ | refine BytesVC.mk _ rfl ?_ | refine DivVC.mk (by omega) (by omega) ?_ | refine RemVC.mk (by omega) (by omega) ?_ | refine GhVC.mk _ _ _ rfl ?_); set_option smartUnfolding false in conv => whnf))))
        refine call_con (N := []) (spoil_con _ s.loss (s.loss.keep.length + 2) hs.keep (Nat.le_refl _)) ?_
        ((set_option smartUnfolding false in conv => whnf) <;> (repeat (first | exact True.intro | ((first | refine ⟨rfl, ?_⟩ | refine ar (by omega) (by omega) ?_ | refine ar8 (by omega) (by omega) ?_ | refine ix (by omega) ?_ | refine IdxVC.mk 0 rfl (by omega) ?_ | refine BytesVC.mk _ rfl ?_ | refine DivVC.mk (by omega) (by omega) ?_ | refine RemVC.mk (by omega) (by omega) ?_ | refine GhVC.mk _ _ _ rfl ?_); set_option smartUnfolding false in conv => whnf))))
        rintro x P7 H' - ⟨rfl, rfl, rfl⟩
        ((set_option smartUnfolding false in conv => whnf) <;> (repeat (first | exact True.intro | ((first | refine ⟨rfl, ?_⟩ | refine ar (by omega) (by omega) ?_ | refine ar8 (by omega) (by omega) ?_ | refine ix (by omega) ?_ | refine IdxVC.mk 0 rfl (by omega) ?_ | refine BytesVC.mk _ rfl ?_ | refine DivVC.mk (by omega) (by omega) ?_ | refine RemVC.mk (by omega) (by omega) ?_ | refine GhVC.mk _ _ _ rfl ?_); set_option smartUnfolding false in conv => whnf))))
        refine ⟨[(0, 0), (300, 300), (301, 301), (302, 302), (5, 601), (7, 602), (540, 540)], rfl, rfl, ?_⟩
        ((set_option smartUnfolding false in conv => whnf) <;> (repeat (first | exact True.intro | ((first | refine ⟨rfl, ?_⟩ | refine ar (by omega) (by omega) ?_ | refine ar8 (by omega) (by omega) ?_ | refine ix (by omega) ?_ | refine IdxVC.mk 0 rfl (by omega) ?_ | refine BytesVC.mk _ rfl ?_ | refine DivVC.mk (by omega) (by omega) ?_ | refine RemVC.mk (by omega) (by omega) ?_ | refine GhVC.mk _ _ _ rfl ?_); set_option smartUnfolding false in conv => whnf))))
        refine ⟨dC 0 D.up :: rH bc lc D.up ka kc D.up.img zs, ?_⟩
        ((set_option smartUnfolding false in conv => whnf) <;> (repeat (first | exact True.intro | ((first | refine ⟨rfl, ?_⟩ | refine ar (by omega) (by omega) ?_ | refine ar8 (by omega) (by omega) ?_ | refine ix (by omega) ?_ | refine IdxVC.mk 0 rfl (by omega) ?_ | refine BytesVC.mk _ rfl ?_ | refine DivVC.mk (by omega) (by omega) ?_ | refine RemVC.mk (by omega) (by omega) ?_ | refine GhVC.mk _ _ _ rfl ?_); set_option smartUnfolding false in conv => whnf))))
        exact ⟨lc, ka, kc, zs, D.up, hD.up, rfl, hz, rfl, rfl⟩
end Go.Proofs.Ytpdppacafkdgdaa
