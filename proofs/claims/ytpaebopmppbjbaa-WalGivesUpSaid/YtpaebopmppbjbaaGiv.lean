/- The walk of WalGivesUp, by the engine. -/
import Derived.Test.YtpaebopmppbjbaaWc
import Derived.Test.YtpaebopmppbjbaaGiveQ
set_option linter.unusedVariables false
set_option linter.unusedSimpArgs false
namespace Go.Proofs.Ytpaebopmppbjbaa
open Go Go.RowKit Go.Le Go.Eng

theorem later {K G : Prop} (h : Hid K → G) (k : K) : G := h k

theorem strs_at (f : Nat → List UInt8) (p q : Nat) (h : q < p) : (strsC ((List.range p).map f)).l[0 + q]? = some (f q) := by
  have e : ((List.range p).map f)[q]? = some (f q) := by rw [List.getElem?_map, List.getElem?_range h]; rfl
  rw [Nat.zero_add]; exact e
theorem map_set {α : Type} (f : Nat → α) (p q : Nat) (v : α) : ((List.range p).map f).set q v = (List.range p).map (fun x => if x = q then v else f x) := by
  apply List.ext_getElem
  · simp
  · intro i h1 h2
    rw [List.getElem_set]
    by_cases h : q = i
    · subst h; simp
    · have : i ≠ q := fun e => h e.symm
      simp [h, this]
theorem strs_set_at (f : Nat → List UInt8) (p q : Nat) (v : List UInt8) (h : q < p) : ((strsC ((List.range p).map f)).l.set (0 + q) v)[0 + q]? = some v := by
  have e : (((List.range p).map f).set q v)[q]? = some v := by rw [List.getElem?_set_self (by simpa using h)]
  rw [Nat.zero_add]; exact e
theorem strs_row (n e cap p q : Nat) (f g : Nat → List UInt8) (v : List UInt8) (h : (List.range p).map (fun x => if x = q then v else f x) = (List.range p).map g) :
    Ck.row n e cap (strsC (((List.range p).map f).set (0 + q) v)) = Ck.row n e cap (strsC ((List.range p).map g)) := by
  rw [Nat.zero_add, map_set, h]
theorem strs_row2 (n e cap p q : Nat) (f g : Nat → List UInt8) (v w : List UInt8) (h : (List.range p).map (fun x => if x = q then v else f x) = (List.range p).map g) :
    Ck.row n e cap (strsC ((((List.range p).map f).set (0 + q) w).set (0 + q) v)) = Ck.row n e cap (strsC ((List.range p).map g)) := by
  rw [List.set_set]
  exact strs_row n e cap p q f g v h
theorem gs_app (a b : List UInt8) : (⟨a.toArray⟩ : ByteArray) ++ ⟨b.toArray⟩ = ⟨(a ++ b).toArray⟩ := by
  apply ByteArray.ext
  rw [ByteArray.data_append]
  simp
theorem brx {b : Bool} {p q : Prop} (h : b = true → p) (h' : b = false → q) : (Bool.rec q p b : Prop) := by
  cases b
  · exact h' rfl
  · exact h rfl
theorem tl_ne {a b : List UInt8} (e : a = b) (h : ((⟨a.toArray⟩ : ByteArray).toList == (⟨b.toArray⟩ : ByteArray).toList) = false) : False := by
  subst e
  simp at h
theorem and_one (x : Nat) (h : x < 256) : bitI .and .u8 (x : Int) 1 = ((x % 2 : Nat) : Int) := by
  have : ∀ x : Fin 256, bitI .and .u8 (x.val : Int) 1 = ((x.val % 2 : Nat) : Int) := by decide +kernel
  exact this ⟨x, h⟩
theorem wide_eq (f g : Nat → List UInt8) (p : Nat) (h : ∀ x, x < p → f x = g x) : (List.range p).map f = (List.range p).map g :=
  List.map_congr_left fun x hx => h x (List.mem_range.1 hx)

set_option maxRecDepth 100000 in
set_option maxHeartbeats 4000000 in
theorem gives_con (P : Hp) (a0 b0 : Int) (ta : Option Addr) (tn tc : Nat) (a1 : -9223372036854775808 ≤ a0) (a2 : a0 ≤ 9223372036854775807) (b1 : -9223372036854775808 ≤ b0) (b2 : b0 ≤ 9223372036854775807)
    (ja : Option Addr) (jc : Nat) (J : List UInt8) (st : Bool) : Con Try.prog [] 4 [.agg [.raw (.int .i64 a0), .raw (.int .i64 b0), .raw (.slice ta tn tc)], .bs ja jc J, .raw (.bool st)] P [] fun x P' H' => x = .raw (.bool true) := by
  obtain ⟨p, hp⟩ : ∃ p : Nat, (p : Int) = 1 + a0 % 20 := ⟨(1 + a0 % 20).toNat, by have := Int.emod_nonneg a0 (show (20 : Int) ≠ 0 by omega); omega⟩
  obtain ⟨more, hmo⟩ : ∃ m : Nat, (m : Int) = b0 % 4 := ⟨(b0 % 4).toNat, by have := Int.emod_nonneg b0 (show (4 : Int) ≠ 0 by omega); omega⟩
  have hp1 : 1 ≤ p := by have := Int.emod_nonneg a0 (show (20 : Int) ≠ 0 by omega); omega
  have hp2 : p ≤ 20 := by have := Int.emod_lt_of_pos a0 (show (0 : Int) < 20 by omega); omega
  have hm3 : more ≤ 3 := by have := Int.emod_lt_of_pos b0 (show (0 : Int) < 4 by omega); omega
  refine con_of_fun T_good (by kernel_rfl) Try.call4 Try.func4 (by kernel_rfl) (by show 3 ≤ _; decide +kernel) ?_
  conv => whnf
  refine call_con (N := [30, 31, 32, 33]) (entered_con P a0 b0 (.slice ta tn tc) a1 a2 b1 b2 p more hp hmo _ rfl) ?_
  conv => whnf
  refine ⟨rfl, rfl, ?_⟩
  rintro x P' H' - ⟨pc, D', -, -, -, rfl, rfl, rfl⟩
  conv => whnf
  refine call_con (N := []) (fixed_con P') ?_
  conv => whnf
  refine ⟨rfl, rfl, ?_⟩
  rintro x P'' H' - ⟨rfl, rfl, rfl⟩
  conv => whnf
  have hneed : needOf (p : Int) = 4 * (p : Int) + 1 := by unfold needOf; rw [if_neg (by omega)]
  have hN : ∀ P, Con Try.prog [] 11 [.raw (.int .i64 (p : Int))] P [] fun x P' H' => x = .raw (.int .i64 (4 * (p : Int) + 1)) ∧ P' = P ∧ H' = [] := fun P => by
    have := Need_con (p : Int) P
    rw [hneed] at this
    exact this
  refine call_con (N := []) (hN _) ?_
  conv => whnf
  refine ⟨rfl, rfl, ?_⟩
  rintro x P1 H' - ⟨rfl, rfl, rfl⟩
  conv => whnf
  refine ⟨rfl, ?_⟩
  conv => whnf
  refine ar (by omega) (by omega) ?_
  conv => whnf
  refine ar (by omega) (by omega) ?_
  conv => whnf
  obtain ⟨N, hNs⟩ : ∃ N, N = 512 * (4 * p + 1 + more) := ⟨_, rfl⟩
  have hNb : 2560 ≤ N ∧ N ≤ 43008 := by omega
  refine .mk N N (by omega) (by omega) (Nat.le_refl _) (by simp; omega) (by omega) ?_
  conv => whnf
  refine .mk (β := { k : Nat // k ≤ N }) (fun ⟨k, _⟩ => ⟨[(10, .raw (.int .i64 (k : Int))), (9, .sl 51 1 0 N N), (2, .raw (.bool st)), (1, .bs ja jc J), (7, .ptr 31 0)], P1, [.row 51 5 N (Eng.bytes (imgF (fun i => if i < k then junkAt J i else 0) N)), .blk 31 44 [.ptr 100031 0, .ptr 200031 0, .raw (.int .i64 (p : Int)), .raw (.int .i64 (more : Int)), .sl 300031 1 0 p pc], .row 300031 9 pc (strsC (List.replicate p (zrs 1024)))]⟩) (fun b => N - b.1) ⟨0, by omega⟩ ?_ ?_
  · conv => whnf
    refine ⟨rfl, ?_⟩
    conv => whnf
    refine ⟨rfl, ?_⟩
    conv => whnf
    refine ⟨rfl, ?_⟩
    conv => whnf
    refine ⟨rfl, ?_⟩
    conv => whnf
    refine ⟨rfl, ?_⟩
    conv => whnf
    refine ⟨rfl, ?_⟩
    conv => whnf
    have e : imgF (fun i => if i < 0 then junkAt J i else 0) N = List.replicate N 0 := by rw [show List.replicate N (0 : UInt8) = zrs N from rfl, ← imgF_zero]; congr 1
    refine ⟨by rw [e], ?_⟩
    ((try conv => whnf) <;> (repeat (first | exact True.intro | ((first | refine ⟨rfl, ?_⟩ | refine ar (by omega) (by omega) ?_ | refine ar8 (by omega) (by omega) ?_ | refine ix (by omega) ?_ | refine IdxVC.mk 0 rfl (by omega) ?_ | refine BytesVC.mk _ rfl ?_ | refine DivVC.mk (by omega) (by omega) ?_); try conv => whnf))))
  · rintro ⟨k, hk⟩ -
    conv => whnf
    refine brd (fun hlt => ?_) (fun hge => ?_)
    · conv => whnf
      have hlt : k < N := by omega
      refine brd (fun hj0 => ?_) (fun hj0 => ?_)
      · have hjp : 0 < J.length := by omega
        obtain ⟨q, hq⟩ : ∃ q, q = (k * 7 + k / 512) % J.length := ⟨_, rfl⟩
        have hqn : q < J.length := by rw [hq]; exact Nat.mod_lt _ hjp
        have hx : J[q] = junkAt J k := by
          unfold junkAt
          rw [if_neg (by omega), ← hq]
          simp [List.getD, hqn]
        have d1 : (k : Int) / 512 = ((k / 512 : Nat) : Int) := by omega
        have m1 : ((k : Int) * 7 + ((k / 512 : Nat) : Int)) % (J.length : Int) = (q : Int) := by
          have e : (k : Int) * 7 + ((k / 512 : Nat) : Int) = ((k * 7 + k / 512 : Nat) : Int) := by omega
          rw [e, hq]
          exact (Int.natCast_emod _ _).symm
        ((try conv => whnf) <;> (repeat (first | exact True.intro | ((first | refine ⟨rfl, ?_⟩ | refine ar (by omega) (by omega) ?_ | refine ar8 (by omega) (by omega) ?_ | refine ix (by omega) ?_ | refine IdxVC.mk 0 rfl (by omega) ?_ | refine BytesVC.mk _ rfl ?_ | refine DivVC.mk (by omega) (by omega) ?_); try conv => whnf))))
        rw [d1, m1]
        refine ix hqn ?_
        ((try conv => whnf) <;> (repeat (first | exact True.intro | ((first | refine ⟨rfl, ?_⟩ | refine ar (by omega) (by omega) ?_ | refine ar8 (by omega) (by omega) ?_ | refine ix (by omega) ?_ | refine IdxVC.mk 0 rfl (by omega) ?_ | refine BytesVC.mk _ rfl ?_ | refine DivVC.mk (by omega) (by omega) ?_); try conv => whnf))))
        refine .mk (junkAt J k) (by rw [← hx]; exact List.getElem?_eq_getElem hqn) ?_
        ((try conv => whnf) <;> (repeat (first | exact True.intro | ((first | refine ⟨rfl, ?_⟩ | refine ar (by omega) (by omega) ?_ | refine ar8 (by omega) (by omega) ?_ | refine ix (by omega) ?_ | refine IdxVC.mk 0 rfl (by omega) ?_ | refine BytesVC.mk _ rfl ?_ | refine DivVC.mk (by omega) (by omega) ?_); try conv => whnf))))
        refine .mk _ (junkAt J k) (by rw [Nat.zero_add]; exact imgF_at _ _ _ hlt) rfl (Nat.le_refl _) ?_
        have e : (imgF (fun i => if i < k then junkAt J i else 0) N).set k (junkAt J k) = imgF (fun i => if i < k + 1 then junkAt J i else 0) N := by
          rw [imgF_set]
          congr 1
          funext i
          by_cases h : i = k
          · subst h; rw [if_pos rfl, if_pos (by omega)]
          · rw [if_neg h]
            by_cases h2 : i < k
            · rw [if_pos h2, if_pos (by omega)]
            · rw [if_neg h2, if_neg (by omega)]
        ((try conv => whnf) <;> (repeat (first | exact True.intro | ((first | refine ⟨rfl, ?_⟩ | refine ar (by omega) (by omega) ?_ | refine ar8 (by omega) (by omega) ?_ | refine ix (by omega) ?_ | refine IdxVC.mk 0 rfl (by omega) ?_ | refine BytesVC.mk _ rfl ?_ | refine DivVC.mk (by omega) (by omega) ?_); try conv => whnf))))
        refine ⟨⟨k + 1, by omega⟩, show N - (k + 1) < N - k by omega, ?_⟩
        ((try conv => whnf) <;> (repeat (first | exact True.intro | ((first | refine ⟨rfl, ?_⟩ | refine ar (by omega) (by omega) ?_ | refine ar8 (by omega) (by omega) ?_ | refine ix (by omega) ?_ | refine IdxVC.mk 0 rfl (by omega) ?_ | refine BytesVC.mk _ rfl ?_ | refine DivVC.mk (by omega) (by omega) ?_); try conv => whnf))))
        refine ⟨by show Ck.row _ _ _ (Eng.bytes (List.set _ (0 + k) _)) = _; rw [Nat.zero_add, e], ?_⟩
        ((try conv => whnf) <;> (repeat (first | exact True.intro | ((first | refine ⟨rfl, ?_⟩ | refine ar (by omega) (by omega) ?_ | refine ar8 (by omega) (by omega) ?_ | refine ix (by omega) ?_ | refine IdxVC.mk 0 rfl (by omega) ?_ | refine BytesVC.mk _ rfl ?_ | refine DivVC.mk (by omega) (by omega) ?_); try conv => whnf))))
      · have e : imgF (fun i => if i < k then junkAt J i else 0) N = imgF (fun i => if i < k + 1 then junkAt J i else 0) N := by
          congr 1
          funext i
          have hz : junkAt J i = 0 := by unfold junkAt; rw [if_pos (by omega)]
          rw [hz]
          split <;> split <;> rfl
        ((try conv => whnf) <;> (repeat (first | exact True.intro | ((first | refine ⟨rfl, ?_⟩ | refine ar (by omega) (by omega) ?_ | refine ar8 (by omega) (by omega) ?_ | refine ix (by omega) ?_ | refine IdxVC.mk 0 rfl (by omega) ?_ | refine BytesVC.mk _ rfl ?_ | refine DivVC.mk (by omega) (by omega) ?_); try conv => whnf))))
        refine ⟨⟨k + 1, by omega⟩, show N - (k + 1) < N - k by omega, ?_⟩
        ((try conv => whnf) <;> (repeat (first | exact True.intro | ((first | refine ⟨rfl, ?_⟩ | refine ar (by omega) (by omega) ?_ | refine ar8 (by omega) (by omega) ?_ | refine ix (by omega) ?_ | refine IdxVC.mk 0 rfl (by omega) ?_ | refine BytesVC.mk _ rfl ?_ | refine DivVC.mk (by omega) (by omega) ?_); try conv => whnf))))
        refine ⟨by rw [e], ?_⟩
        ((try conv => whnf) <;> (repeat (first | exact True.intro | ((first | refine ⟨rfl, ?_⟩ | refine ar (by omega) (by omega) ?_ | refine ar8 (by omega) (by omega) ?_ | refine ix (by omega) ?_ | refine IdxVC.mk 0 rfl (by omega) ?_ | refine BytesVC.mk _ rfl ?_ | refine DivVC.mk (by omega) (by omega) ?_); try conv => whnf))))
    · conv => whnf
      obtain rfl : k = N := by omega
      obtain ⟨gb, hgb⟩ : ∃ g, g = gBits J st p := ⟨_, rfl⟩
      obtain ⟨fin, hfin⟩ : ∃ g, g = finAt J st p := ⟨_, rfl⟩
      have hgl : gb < 256 := by
        have h1 := gBits_lt J st p
        have h2 : 2 ^ (min p 8) ≤ 2 ^ 8 := Nat.pow_le_pow_right (by omega) (by omega)
        omega
      refine .mk (β := { k : Nat // k ≤ 512 }) (fun ⟨q, _⟩ => ⟨[(12, .raw (.int .i64 (q : Int))), (11, .raw (.int .u8 ((if 0 < q then UInt8.ofNat gb else 0).toNat : Int))), (9, .sl 51 1 0 k k), (2, .raw (.bool st)), (1, .bs ja jc J), (7, .ptr 31 0)], P1, [.row 51 5 k (Eng.bytes (imgF (fun i => if i < q then gAt J st p i else junkAt J i) k)), .blk 31 44 [.ptr 100031 0, .ptr 200031 0, .raw (.int .i64 (p : Int)), .raw (.int .i64 (more : Int)), .sl 300031 1 0 p pc], .row 300031 9 pc (strsC (List.replicate p (zrs 1024)))]⟩) (fun q => 512 - q.1) ⟨0, by omega⟩ ?_ ?_
      · ((try conv => whnf) <;> (repeat (first | exact True.intro | ((first | refine ⟨rfl, ?_⟩ | refine ar (by omega) (by omega) ?_ | refine ar8 (by omega) (by omega) ?_ | refine ix (by omega) ?_ | refine IdxVC.mk 0 rfl (by omega) ?_ | refine BytesVC.mk _ rfl ?_ | refine DivVC.mk (by omega) (by omega) ?_); try conv => whnf))))
        have e : imgF (fun i => if i < k then junkAt J i else 0) k = imgF (fun i => if i < 0 then gAt J st p i else junkAt J i) k := by
          apply List.ext_getElem?
          intro i
          by_cases h : i < k
          · rw [imgF_at _ _ _ h, imgF_at _ _ _ h, if_pos h, if_neg (by omega)]
          · rw [List.getElem?_eq_none (by rw [imgF_length]; omega), List.getElem?_eq_none (by rw [imgF_length]; omega)]
        refine ⟨by rw [e], ?_⟩
        ((try conv => whnf) <;> (repeat (first | exact True.intro | ((first | refine ⟨rfl, ?_⟩ | refine ar (by omega) (by omega) ?_ | refine ar8 (by omega) (by omega) ?_ | refine ix (by omega) ?_ | refine IdxVC.mk 0 rfl (by omega) ?_ | refine BytesVC.mk _ rfl ?_ | refine DivVC.mk (by omega) (by omega) ?_); try conv => whnf))))
      · rintro ⟨q, hq⟩ -
        conv => whnf
        refine brd (fun hlt => ?_) (fun hge => ?_)
        · have hlt : q < 512 := by omega
          have hstep : ∀ v : UInt8, v = gAt J st p q → imgF (fun i => if i = q then v else if i < q then gAt J st p i else junkAt J i) k = imgF (fun i => if i < q + 1 then gAt J st p i else junkAt J i) k := by
            intro v hv
            congr 1
            funext i
            by_cases h : i = q
            · subst h; rw [if_pos rfl, if_pos (by omega), hv]
            · rw [if_neg h]
              by_cases h2 : i < q
              · rw [if_pos h2, if_pos (by omega)]
              · rw [if_neg h2, if_neg (by omega)]
          ((try conv => whnf) <;> (repeat (first | exact True.intro | ((first | refine ⟨rfl, ?_⟩ | refine ar (by omega) (by omega) ?_ | refine ar8 (by omega) (by omega) ?_ | refine ix (by omega) ?_ | refine IdxVC.mk 0 rfl (by omega) ?_ | refine BytesVC.mk _ rfl ?_ | refine DivVC.mk (by omega) (by omega) ?_); try conv => whnf))))
          refine brd (fun h0 => ?_) (fun h0 => ?_)
          · obtain rfl : q = 0 := by omega
            cases st with
            | true =>
              ((try conv => whnf) <;> (repeat (first | exact True.intro | ((first | refine ⟨rfl, ?_⟩ | refine ar (by omega) (by omega) ?_ | refine ar8 (by omega) (by omega) ?_ | refine ix (by omega) ?_ | refine IdxVC.mk 0 rfl (by omega) ?_ | refine BytesVC.mk _ rfl ?_ | refine DivVC.mk (by omega) (by omega) ?_); try conv => whnf))))
              refine .mk (junkAt J 0) (by rw [Nat.add_zero, imgF_at _ _ _ (by omega), if_neg (by omega)]) ?_
              ((try conv => whnf) <;> (repeat (first | exact True.intro | ((first | refine ⟨rfl, ?_⟩ | refine ar (by omega) (by omega) ?_ | refine ar8 (by omega) (by omega) ?_ | refine ix (by omega) ?_ | refine IdxVC.mk 0 rfl (by omega) ?_ | refine BytesVC.mk _ rfl ?_ | refine DivVC.mk (by omega) (by omega) ?_); try conv => whnf))))
              obtain ⟨m8, hm8e⟩ : ∃ m8, m8 = min p 8 := ⟨_, rfl⟩
              obtain ⟨s8, k8, hsh, hsb, hnd0⟩ := mask_u8 (junkAt J 0) m8 (by omega) (by omega)
              have hgb2 : gb = (junkAt J 0).toNat % 2 ^ m8 := by rw [hgb]; unfold gBits; rw [if_pos rfl, hm8e]
              have hnd : bits .and .u8 ((junkAt J 0).toNat : Int) (k8 : Int) = ((UInt8.ofNat gb).toNat : Int) := by rw [hgb2]; exact hnd0
              refine .mk m8 (by split <;> omega) (by show m8 ≤ 8; omega) ?_
              refine .wraps ?_
              rw [Int.one_mul, hsh]
              ((try conv => whnf) <;> (repeat (first | exact True.intro | ((first | refine ⟨rfl, ?_⟩ | refine ar (by omega) (by omega) ?_ | refine ar8 (by omega) (by omega) ?_ | refine ix (by omega) ?_ | refine IdxVC.mk 0 rfl (by omega) ?_ | refine BytesVC.mk _ rfl ?_ | refine DivVC.mk (by omega) (by omega) ?_); try conv => whnf))))
              refine .wraps ?_
              rw [hsb]
              ((try conv => whnf) <;> (repeat (first | exact True.intro | ((first | refine ⟨rfl, ?_⟩ | refine ar (by omega) (by omega) ?_ | refine ar8 (by omega) (by omega) ?_ | refine ix (by omega) ?_ | refine IdxVC.mk 0 rfl (by omega) ?_ | refine BytesVC.mk _ rfl ?_ | refine DivVC.mk (by omega) (by omega) ?_); try conv => whnf))))
              refine .mk _ (UInt8.ofNat gb) (by rw [Nat.add_zero]; exact imgF_at _ _ _ (by omega)) (congrArg (fun z => [Cell.v (Value.int .u8 z)]) hnd.symm) (Nat.le_refl _) ?_
              ((try conv => whnf) <;> (repeat (first | exact True.intro | ((first | refine ⟨rfl, ?_⟩ | refine ar (by omega) (by omega) ?_ | refine ar8 (by omega) (by omega) ?_ | refine ix (by omega) ?_ | refine IdxVC.mk 0 rfl (by omega) ?_ | refine BytesVC.mk _ rfl ?_ | refine DivVC.mk (by omega) (by omega) ?_); try conv => whnf))))
              refine ⟨⟨1, by omega⟩, show 512 - 1 < 512 - 0 by omega, ?_⟩
              ((try conv => whnf) <;> (repeat (first | exact True.intro | ((first | refine ⟨rfl, ?_⟩ | refine ar (by omega) (by omega) ?_ | refine ar8 (by omega) (by omega) ?_ | refine ix (by omega) ?_ | refine IdxVC.mk 0 rfl (by omega) ?_ | refine BytesVC.mk _ rfl ?_ | refine DivVC.mk (by omega) (by omega) ?_); try conv => whnf))))
              refine ⟨congrArg (fun z => SV.raw (Value.int .u8 z)) hnd, ?_⟩
              ((try conv => whnf) <;> (repeat (first | exact True.intro | ((first | refine ⟨rfl, ?_⟩ | refine ar (by omega) (by omega) ?_ | refine ar8 (by omega) (by omega) ?_ | refine ix (by omega) ?_ | refine IdxVC.mk 0 rfl (by omega) ?_ | refine BytesVC.mk _ rfl ?_ | refine DivVC.mk (by omega) (by omega) ?_); try conv => whnf))))
              refine ⟨by
                show Ck.row _ _ _ (Eng.bytes (List.set _ 0 _)) = _
                rw [imgF_set]
                have h3 := hstep (UInt8.ofNat gb) (by rw [hgb]; rfl)
                rw [← h3], ?_⟩
              ((try conv => whnf) <;> (repeat (first | exact True.intro | ((first | refine ⟨rfl, ?_⟩ | refine ar (by omega) (by omega) ?_ | refine ar8 (by omega) (by omega) ?_ | refine ix (by omega) ?_ | refine IdxVC.mk 0 rfl (by omega) ?_ | refine BytesVC.mk _ rfl ?_ | refine DivVC.mk (by omega) (by omega) ?_); try conv => whnf))))
            | false =>
              ((try conv => whnf) <;> (repeat (first | exact True.intro | ((first | refine ⟨rfl, ?_⟩ | refine ar (by omega) (by omega) ?_ | refine ar8 (by omega) (by omega) ?_ | refine ix (by omega) ?_ | refine IdxVC.mk 0 rfl (by omega) ?_ | refine BytesVC.mk _ rfl ?_ | refine DivVC.mk (by omega) (by omega) ?_); try conv => whnf))))
              have e : imgF (fun i => if i < 0 then gAt J false p i else junkAt J i) k = imgF (fun i => if i < 0 + 1 then gAt J false p i else junkAt J i) k := by
                congr 1
                funext i
                rw [if_neg (by omega)]
                by_cases h : i = 0
                · subst h; rw [if_pos (by omega)]; rfl
                · rw [if_neg (by omega)]
              have e0 : gb = 0 := by rw [hgb]; rfl
              refine ⟨⟨1, by omega⟩, show 512 - 1 < 512 - 0 by omega, ?_⟩
              ((try conv => whnf) <;> (repeat (first | exact True.intro | ((first | refine ⟨rfl, ?_⟩ | refine ar (by omega) (by omega) ?_ | refine ar8 (by omega) (by omega) ?_ | refine ix (by omega) ?_ | refine IdxVC.mk 0 rfl (by omega) ?_ | refine BytesVC.mk _ rfl ?_ | refine DivVC.mk (by omega) (by omega) ?_); try conv => whnf))))
              refine ⟨by rw [e0]; rfl, ?_⟩
              ((try conv => whnf) <;> (repeat (first | exact True.intro | ((first | refine ⟨rfl, ?_⟩ | refine ar (by omega) (by omega) ?_ | refine ar8 (by omega) (by omega) ?_ | refine ix (by omega) ?_ | refine IdxVC.mk 0 rfl (by omega) ?_ | refine BytesVC.mk _ rfl ?_ | refine DivVC.mk (by omega) (by omega) ?_); try conv => whnf))))
              refine ⟨by rw [e], ?_⟩
              ((try conv => whnf) <;> (repeat (first | exact True.intro | ((first | refine ⟨rfl, ?_⟩ | refine ar (by omega) (by omega) ?_ | refine ar8 (by omega) (by omega) ?_ | refine ix (by omega) ?_ | refine IdxVC.mk 0 rfl (by omega) ?_ | refine BytesVC.mk _ rfl ?_ | refine DivVC.mk (by omega) (by omega) ?_); try conv => whnf))))
          · ((try conv => whnf) <;> (repeat (first | exact True.intro | ((first | refine ⟨rfl, ?_⟩ | refine ar (by omega) (by omega) ?_ | refine ar8 (by omega) (by omega) ?_ | refine ix (by omega) ?_ | refine IdxVC.mk 0 rfl (by omega) ?_ | refine BytesVC.mk _ rfl ?_ | refine DivVC.mk (by omega) (by omega) ?_); try conv => whnf))))
            refine brd (fun h1 => ?_) (fun h1 => absurd h1 (by omega))
            ((try conv => whnf) <;> (repeat (first | exact True.intro | ((first | refine ⟨rfl, ?_⟩ | refine ar (by omega) (by omega) ?_ | refine ar8 (by omega) (by omega) ?_ | refine ix (by omega) ?_ | refine IdxVC.mk 0 rfl (by omega) ?_ | refine BytesVC.mk _ rfl ?_ | refine DivVC.mk (by omega) (by omega) ?_); try conv => whnf))))
            have eb : (if 0 < q then UInt8.ofNat gb else 0) = if 0 < q + 1 then UInt8.ofNat gb else 0 := by rw [if_pos (by omega), if_pos (by omega)]
            refine brd (fun h5 => ?_) (fun h5 => ?_)
            · cases st with
              | true =>
                ((try conv => whnf) <;> (repeat (first | exact True.intro | ((first | refine ⟨rfl, ?_⟩ | refine ar (by omega) (by omega) ?_ | refine ar8 (by omega) (by omega) ?_ | refine ix (by omega) ?_ | refine IdxVC.mk 0 rfl (by omega) ?_ | refine BytesVC.mk _ rfl ?_ | refine DivVC.mk (by omega) (by omega) ?_); try conv => whnf))))
                refine .mk _ 0 (by rw [Nat.zero_add]; exact imgF_at _ _ _ (by omega)) rfl (Nat.le_refl _) ?_
                ((try conv => whnf) <;> (repeat (first | exact True.intro | ((first | refine ⟨rfl, ?_⟩ | refine ar (by omega) (by omega) ?_ | refine ar8 (by omega) (by omega) ?_ | refine ix (by omega) ?_ | refine IdxVC.mk 0 rfl (by omega) ?_ | refine BytesVC.mk _ rfl ?_ | refine DivVC.mk (by omega) (by omega) ?_); try conv => whnf))))
                refine ⟨⟨q + 1, by omega⟩, show 512 - (q + 1) < 512 - q by omega, ?_⟩
                ((try conv => whnf) <;> (repeat (first | exact True.intro | ((first | refine ⟨rfl, ?_⟩ | refine ar (by omega) (by omega) ?_ | refine ar8 (by omega) (by omega) ?_ | refine ix (by omega) ?_ | refine IdxVC.mk 0 rfl (by omega) ?_ | refine BytesVC.mk _ rfl ?_ | refine DivVC.mk (by omega) (by omega) ?_); try conv => whnf))))
                refine ⟨by rw [eb], ?_⟩
                ((try conv => whnf) <;> (repeat (first | exact True.intro | ((first | refine ⟨rfl, ?_⟩ | refine ar (by omega) (by omega) ?_ | refine ar8 (by omega) (by omega) ?_ | refine ix (by omega) ?_ | refine IdxVC.mk 0 rfl (by omega) ?_ | refine BytesVC.mk _ rfl ?_ | refine DivVC.mk (by omega) (by omega) ?_); try conv => whnf))))
                refine ⟨by show Ck.row _ _ _ (Eng.bytes (List.set _ (0 + q) _)) = _; rw [Nat.zero_add, imgF_set, hstep 0 (by unfold gAt; rw [if_neg (by omega), if_pos (by omega), if_pos rfl])], ?_⟩
                ((try conv => whnf) <;> (repeat (first | exact True.intro | ((first | refine ⟨rfl, ?_⟩ | refine ar (by omega) (by omega) ?_ | refine ar8 (by omega) (by omega) ?_ | refine ix (by omega) ?_ | refine IdxVC.mk 0 rfl (by omega) ?_ | refine BytesVC.mk _ rfl ?_ | refine DivVC.mk (by omega) (by omega) ?_); try conv => whnf))))
              | false =>
                have e : imgF (fun i => if i < q then gAt J false p i else junkAt J i) k = imgF (fun i => if i < q + 1 then gAt J false p i else junkAt J i) k := by
                  rw [← hstep (junkAt J q) (by unfold gAt; rw [if_neg (by omega), if_pos (by omega)]; rfl)]
                  congr 1
                  funext i
                  by_cases h : i = q
                  · subst h; rw [if_pos rfl, if_neg (by omega)]
                  · rw [if_neg h]
                ((try conv => whnf) <;> (repeat (first | exact True.intro | ((first | refine ⟨rfl, ?_⟩ | refine ar (by omega) (by omega) ?_ | refine ar8 (by omega) (by omega) ?_ | refine ix (by omega) ?_ | refine IdxVC.mk 0 rfl (by omega) ?_ | refine BytesVC.mk _ rfl ?_ | refine DivVC.mk (by omega) (by omega) ?_); try conv => whnf))))
                refine brd (fun h6 => absurd h6 (by omega)) (fun h6 => ?_)
                ((try conv => whnf) <;> (repeat (first | exact True.intro | ((first | refine ⟨rfl, ?_⟩ | refine ar (by omega) (by omega) ?_ | refine ar8 (by omega) (by omega) ?_ | refine ix (by omega) ?_ | refine IdxVC.mk 0 rfl (by omega) ?_ | refine BytesVC.mk _ rfl ?_ | refine DivVC.mk (by omega) (by omega) ?_); try conv => whnf))))
                refine ⟨⟨q + 1, by omega⟩, show 512 - (q + 1) < 512 - q by omega, ?_⟩
                ((try conv => whnf) <;> (repeat (first | exact True.intro | ((first | refine ⟨rfl, ?_⟩ | refine ar (by omega) (by omega) ?_ | refine ar8 (by omega) (by omega) ?_ | refine ix (by omega) ?_ | refine IdxVC.mk 0 rfl (by omega) ?_ | refine BytesVC.mk _ rfl ?_ | refine DivVC.mk (by omega) (by omega) ?_); try conv => whnf))))
                refine ⟨by rw [eb], ?_⟩
                ((try conv => whnf) <;> (repeat (first | exact True.intro | ((first | refine ⟨rfl, ?_⟩ | refine ar (by omega) (by omega) ?_ | refine ar8 (by omega) (by omega) ?_ | refine ix (by omega) ?_ | refine IdxVC.mk 0 rfl (by omega) ?_ | refine BytesVC.mk _ rfl ?_ | refine DivVC.mk (by omega) (by omega) ?_); try conv => whnf))))
                refine ⟨by rw [e], ?_⟩
                ((try conv => whnf) <;> (repeat (first | exact True.intro | ((first | refine ⟨rfl, ?_⟩ | refine ar (by omega) (by omega) ?_ | refine ar8 (by omega) (by omega) ?_ | refine ix (by omega) ?_ | refine IdxVC.mk 0 rfl (by omega) ?_ | refine BytesVC.mk _ rfl ?_ | refine DivVC.mk (by omega) (by omega) ?_); try conv => whnf))))
            · ((try conv => whnf) <;> (repeat (first | exact True.intro | ((first | refine ⟨rfl, ?_⟩ | refine ar (by omega) (by omega) ?_ | refine ar8 (by omega) (by omega) ?_ | refine ix (by omega) ?_ | refine IdxVC.mk 0 rfl (by omega) ?_ | refine BytesVC.mk _ rfl ?_ | refine DivVC.mk (by omega) (by omega) ?_); try conv => whnf))))
              refine brd (fun h6 => ?_) (fun h6 => absurd h6 (by omega))
              ((try conv => whnf) <;> (repeat (first | exact True.intro | ((first | refine ⟨rfl, ?_⟩ | refine ar (by omega) (by omega) ?_ | refine ar8 (by omega) (by omega) ?_ | refine ix (by omega) ?_ | refine IdxVC.mk 0 rfl (by omega) ?_ | refine BytesVC.mk _ rfl ?_ | refine DivVC.mk (by omega) (by omega) ?_); try conv => whnf))))
              refine .mk _ 0 (by rw [Nat.zero_add]; exact imgF_at _ _ _ (by omega)) rfl (Nat.le_refl _) ?_
              ((try conv => whnf) <;> (repeat (first | exact True.intro | ((first | refine ⟨rfl, ?_⟩ | refine ar (by omega) (by omega) ?_ | refine ar8 (by omega) (by omega) ?_ | refine ix (by omega) ?_ | refine IdxVC.mk 0 rfl (by omega) ?_ | refine BytesVC.mk _ rfl ?_ | refine DivVC.mk (by omega) (by omega) ?_); try conv => whnf))))
              refine ⟨⟨q + 1, by omega⟩, show 512 - (q + 1) < 512 - q by omega, ?_⟩
              ((try conv => whnf) <;> (repeat (first | exact True.intro | ((first | refine ⟨rfl, ?_⟩ | refine ar (by omega) (by omega) ?_ | refine ar8 (by omega) (by omega) ?_ | refine ix (by omega) ?_ | refine IdxVC.mk 0 rfl (by omega) ?_ | refine BytesVC.mk _ rfl ?_ | refine DivVC.mk (by omega) (by omega) ?_); try conv => whnf))))
              refine ⟨by rw [eb], ?_⟩
              ((try conv => whnf) <;> (repeat (first | exact True.intro | ((first | refine ⟨rfl, ?_⟩ | refine ar (by omega) (by omega) ?_ | refine ar8 (by omega) (by omega) ?_ | refine ix (by omega) ?_ | refine IdxVC.mk 0 rfl (by omega) ?_ | refine BytesVC.mk _ rfl ?_ | refine DivVC.mk (by omega) (by omega) ?_); try conv => whnf))))
              refine ⟨by show Ck.row _ _ _ (Eng.bytes (List.set _ (0 + q) _)) = _; rw [Nat.zero_add, imgF_set, hstep 0 (by unfold gAt; rw [if_neg (by omega), if_neg (by omega), if_pos (by omega)])], ?_⟩
              ((try conv => whnf) <;> (repeat (first | exact True.intro | ((first | refine ⟨rfl, ?_⟩ | refine ar (by omega) (by omega) ?_ | refine ar8 (by omega) (by omega) ?_ | refine ix (by omega) ?_ | refine IdxVC.mk 0 rfl (by omega) ?_ | refine BytesVC.mk _ rfl ?_ | refine DivVC.mk (by omega) (by omega) ?_); try conv => whnf))))
        · obtain rfl : q = 512 := by omega
          have e : imgF (fun i => if i < 512 then gAt J st p i else junkAt J i) k = imgF (gAt J st p) k := by
            congr 1
            funext i
            by_cases h : i < 512
            · rw [if_pos h]
            · rw [if_neg h]
              unfold gAt
              rw [if_neg (by omega), if_neg (by omega), if_neg (by omega)]
          have eg : ((if 0 < 512 then UInt8.ofNat gb else 0 : UInt8).toNat : Int) = (gb : Int) := by rw [if_pos (by omega)]; simp; omega
          have eg2 : (UInt8.ofNat gb).toNat = gb := by simp; omega
          have hst0 : ∀ {b}, st = b → b = false → gb = 0 := by
            rintro b rfl rfl
            rw [hgb]; rfl
          have hb1 : gb ≠ 0 → imgF (fun i => if i = 511 then (1 : UInt8) else gAt J st p i) k = imgF fin k := by
            intro h
            congr 1
            funext i
            rw [hfin]
            unfold finAt
            rw [← hgb, if_neg h]
          have hb0 : gb = 0 → imgF (gAt J st p) k = imgF fin k := by
            intro h
            congr 1
            funext i
            rw [hfin]
            unfold finAt
            rw [← hgb, if_pos h]
            by_cases h : i = 511
            · subst h; rw [if_pos rfl]; unfold gAt; rw [if_neg (by omega), if_neg (by omega), if_pos rfl]
            · rw [if_neg h]
          have es : List.replicate p (zrs 1024) = (List.range p).map (fun x => if x < 0 then pageAt (imgF fin k) gb p x else zrs 1024) := by
            apply List.ext_getElem
            · simp
            · intro i h1 h2
              simp
          have hrow : imgF (fun i => if i < 512 then gAt J st p i else junkAt J i) k = imgF fin k → Ck.row 51 5 k (Eng.bytes (imgF (fun i => if i < 512 then gAt J st p i else junkAt J i) k)) = Ck.row 51 5 k (Eng.bytes (imgF fin k)) := fun h => by rw [h]
          apply later
          case h =>
            intro key
            ((try conv => whnf) <;> (repeat (first | exact True.intro | ((first | refine ⟨rfl, ?_⟩ | refine ar (by omega) (by omega) ?_ | refine ar8 (by omega) (by omega) ?_ | refine ix (by omega) ?_ | refine IdxVC.mk 0 rfl (by omega) ?_ | refine BytesVC.mk _ rfl ?_ | refine DivVC.mk (by omega) (by omega) ?_); try conv => whnf))))
            refine br (fun hs => ?_) (fun hs => ?_)
            · ((try conv => whnf) <;> (repeat (first | exact True.intro | ((first | refine ⟨rfl, ?_⟩ | refine ar (by omega) (by omega) ?_ | refine ar8 (by omega) (by omega) ?_ | refine ix (by omega) ?_ | refine IdxVC.mk 0 rfl (by omega) ?_ | refine BytesVC.mk _ rfl ?_ | refine DivVC.mk (by omega) (by omega) ?_); try conv => whnf))))
              rw [eg]
              refine brn (fun h7 => ?_) (fun h7 => ?_)
              · ((try conv => whnf) <;> (repeat (first | exact True.intro | ((first | refine ⟨rfl, ?_⟩ | refine ar (by omega) (by omega) ?_ | refine ar8 (by omega) (by omega) ?_ | refine ix (by omega) ?_ | refine IdxVC.mk 0 rfl (by omega) ?_ | refine BytesVC.mk _ rfl ?_ | refine DivVC.mk (by omega) (by omega) ?_); try conv => whnf))))
                refine .mk 511 rfl (by omega) ?_
                ((try conv => whnf) <;> (repeat (first | exact True.intro | ((first | refine ⟨rfl, ?_⟩ | refine ar (by omega) (by omega) ?_ | refine ar8 (by omega) (by omega) ?_ | refine ix (by omega) ?_ | refine IdxVC.mk 0 rfl (by omega) ?_ | refine BytesVC.mk _ rfl ?_ | refine DivVC.mk (by omega) (by omega) ?_); try conv => whnf))))
                refine .mk _ 1 (by rw [Nat.zero_add]; exact imgF_at _ _ _ (by omega)) rfl (Nat.le_refl _) ?_
                ((try conv => whnf) <;> (repeat (first | exact True.intro | ((first | refine ⟨rfl, ?_⟩ | refine ar (by omega) (by omega) ?_ | refine ar8 (by omega) (by omega) ?_ | refine ix (by omega) ?_ | refine IdxVC.mk 0 rfl (by omega) ?_ | refine BytesVC.mk _ rfl ?_ | refine DivVC.mk (by omega) (by omega) ?_); try conv => whnf))))
                refine .mk (β := { k : Nat // k ≤ p }) (fun ⟨q, _⟩ => ⟨[(13, .raw (.int .i64 (q : Int))), (11, .raw (.int .u8 (gb : Int))), (9, .sl 51 1 0 k k), (7, .ptr 31 0)], P1, [.row 51 5 k (Eng.bytes (imgF fin k)), .blk 31 44 [.ptr 100031 0, .ptr 200031 0, .raw (.int .i64 (p : Int)), .raw (.int .i64 (more : Int)), .sl 300031 1 0 p pc], .row 300031 9 pc (strsC ((List.range p).map (fun x => if x < q then pageAt (imgF fin k) gb p x else zrs 1024)))]⟩) (fun q => p - q.1) ⟨0, by omega⟩ ?_ key
                ((try conv => whnf) <;> (repeat (first | exact True.intro | ((first | refine ⟨rfl, ?_⟩ | refine ar (by omega) (by omega) ?_ | refine ar8 (by omega) (by omega) ?_ | refine ix (by omega) ?_ | refine IdxVC.mk 0 rfl (by omega) ?_ | refine BytesVC.mk _ rfl ?_ | refine DivVC.mk (by omega) (by omega) ?_); try conv => whnf))))
                refine ⟨by rw [← eg], ?_⟩
                ((try conv => whnf) <;> (repeat (first | exact True.intro | ((first | refine ⟨rfl, ?_⟩ | refine ar (by omega) (by omega) ?_ | refine ar8 (by omega) (by omega) ?_ | refine ix (by omega) ?_ | refine IdxVC.mk 0 rfl (by omega) ?_ | refine BytesVC.mk _ rfl ?_ | refine DivVC.mk (by omega) (by omega) ?_); try conv => whnf))))
                refine ⟨by
                  show Ck.row _ _ _ (Eng.bytes (List.set _ (0 + 511) _)) = _
                  rw [e, Nat.zero_add, imgF_set, hb1 (by omega)], ?_⟩
                ((try conv => whnf) <;> (repeat (first | exact True.intro | ((first | refine ⟨rfl, ?_⟩ | refine ar (by omega) (by omega) ?_ | refine ar8 (by omega) (by omega) ?_ | refine ix (by omega) ?_ | refine IdxVC.mk 0 rfl (by omega) ?_ | refine BytesVC.mk _ rfl ?_ | refine DivVC.mk (by omega) (by omega) ?_); try conv => whnf))))
                refine ⟨by rw [es], ?_⟩
                ((try conv => whnf) <;> (repeat (first | exact True.intro | ((first | refine ⟨rfl, ?_⟩ | refine ar (by omega) (by omega) ?_ | refine ar8 (by omega) (by omega) ?_ | refine ix (by omega) ?_ | refine IdxVC.mk 0 rfl (by omega) ?_ | refine BytesVC.mk _ rfl ?_ | refine DivVC.mk (by omega) (by omega) ?_); try conv => whnf))))
              · ((try conv => whnf) <;> (repeat (first | exact True.intro | ((first | refine ⟨rfl, ?_⟩ | refine ar (by omega) (by omega) ?_ | refine ar8 (by omega) (by omega) ?_ | refine ix (by omega) ?_ | refine IdxVC.mk 0 rfl (by omega) ?_ | refine BytesVC.mk _ rfl ?_ | refine DivVC.mk (by omega) (by omega) ?_); try conv => whnf))))
                refine .mk (β := { k : Nat // k ≤ p }) (fun ⟨q, _⟩ => ⟨[(13, .raw (.int .i64 (q : Int))), (11, .raw (.int .u8 (gb : Int))), (9, .sl 51 1 0 k k), (7, .ptr 31 0)], P1, [.row 51 5 k (Eng.bytes (imgF fin k)), .blk 31 44 [.ptr 100031 0, .ptr 200031 0, .raw (.int .i64 (p : Int)), .raw (.int .i64 (more : Int)), .sl 300031 1 0 p pc], .row 300031 9 pc (strsC ((List.range p).map (fun x => if x < q then pageAt (imgF fin k) gb p x else zrs 1024)))]⟩) (fun q => p - q.1) ⟨0, by omega⟩ ?_ key
                ((try conv => whnf) <;> (repeat (first | exact True.intro | ((first | refine ⟨rfl, ?_⟩ | refine ar (by omega) (by omega) ?_ | refine ar8 (by omega) (by omega) ?_ | refine ix (by omega) ?_ | refine IdxVC.mk 0 rfl (by omega) ?_ | refine BytesVC.mk _ rfl ?_ | refine DivVC.mk (by omega) (by omega) ?_); try conv => whnf))))
                refine ⟨by rw [← eg], ?_⟩
                ((try conv => whnf) <;> (repeat (first | exact True.intro | ((first | refine ⟨rfl, ?_⟩ | refine ar (by omega) (by omega) ?_ | refine ar8 (by omega) (by omega) ?_ | refine ix (by omega) ?_ | refine IdxVC.mk 0 rfl (by omega) ?_ | refine BytesVC.mk _ rfl ?_ | refine DivVC.mk (by omega) (by omega) ?_); try conv => whnf))))
                refine ⟨hrow (by rw [e, hb0 (by omega)]), ?_⟩
                ((try conv => whnf) <;> (repeat (first | exact True.intro | ((first | refine ⟨rfl, ?_⟩ | refine ar (by omega) (by omega) ?_ | refine ar8 (by omega) (by omega) ?_ | refine ix (by omega) ?_ | refine IdxVC.mk 0 rfl (by omega) ?_ | refine BytesVC.mk _ rfl ?_ | refine DivVC.mk (by omega) (by omega) ?_); try conv => whnf))))
                refine ⟨by rw [es], ?_⟩
                ((try conv => whnf) <;> (repeat (first | exact True.intro | ((first | refine ⟨rfl, ?_⟩ | refine ar (by omega) (by omega) ?_ | refine ar8 (by omega) (by omega) ?_ | refine ix (by omega) ?_ | refine IdxVC.mk 0 rfl (by omega) ?_ | refine BytesVC.mk _ rfl ?_ | refine DivVC.mk (by omega) (by omega) ?_); try conv => whnf))))
            · ((try conv => whnf) <;> (repeat (first | exact True.intro | ((first | refine ⟨rfl, ?_⟩ | refine ar (by omega) (by omega) ?_ | refine ar8 (by omega) (by omega) ?_ | refine ix (by omega) ?_ | refine IdxVC.mk 0 rfl (by omega) ?_ | refine BytesVC.mk _ rfl ?_ | refine DivVC.mk (by omega) (by omega) ?_); try conv => whnf))))
              refine .mk (β := { k : Nat // k ≤ p }) (fun ⟨q, _⟩ => ⟨[(13, .raw (.int .i64 (q : Int))), (11, .raw (.int .u8 (gb : Int))), (9, .sl 51 1 0 k k), (7, .ptr 31 0)], P1, [.row 51 5 k (Eng.bytes (imgF fin k)), .blk 31 44 [.ptr 100031 0, .ptr 200031 0, .raw (.int .i64 (p : Int)), .raw (.int .i64 (more : Int)), .sl 300031 1 0 p pc], .row 300031 9 pc (strsC ((List.range p).map (fun x => if x < q then pageAt (imgF fin k) gb p x else zrs 1024)))]⟩) (fun q => p - q.1) ⟨0, by omega⟩ ?_ key
              ((try conv => whnf) <;> (repeat (first | exact True.intro | ((first | refine ⟨rfl, ?_⟩ | refine ar (by omega) (by omega) ?_ | refine ar8 (by omega) (by omega) ?_ | refine ix (by omega) ?_ | refine IdxVC.mk 0 rfl (by omega) ?_ | refine BytesVC.mk _ rfl ?_ | refine DivVC.mk (by omega) (by omega) ?_); try conv => whnf))))
              refine ⟨by rw [← eg], ?_⟩
              ((try conv => whnf) <;> (repeat (first | exact True.intro | ((first | refine ⟨rfl, ?_⟩ | refine ar (by omega) (by omega) ?_ | refine ar8 (by omega) (by omega) ?_ | refine ix (by omega) ?_ | refine IdxVC.mk 0 rfl (by omega) ?_ | refine BytesVC.mk _ rfl ?_ | refine DivVC.mk (by omega) (by omega) ?_); try conv => whnf))))
              refine ⟨hrow (by rw [e, hb0 (hst0 hs rfl)]), ?_⟩
              ((try conv => whnf) <;> (repeat (first | exact True.intro | ((first | refine ⟨rfl, ?_⟩ | refine ar (by omega) (by omega) ?_ | refine ar8 (by omega) (by omega) ?_ | refine ix (by omega) ?_ | refine IdxVC.mk 0 rfl (by omega) ?_ | refine BytesVC.mk _ rfl ?_ | refine DivVC.mk (by omega) (by omega) ?_); try conv => whnf))))
              refine ⟨by rw [es], ?_⟩
              ((try conv => whnf) <;> (repeat (first | exact True.intro | ((first | refine ⟨rfl, ?_⟩ | refine ar (by omega) (by omega) ?_ | refine ar8 (by omega) (by omega) ?_ | refine ix (by omega) ?_ | refine IdxVC.mk 0 rfl (by omega) ?_ | refine BytesVC.mk _ rfl ?_ | refine DivVC.mk (by omega) (by omega) ?_); try conv => whnf))))
          case k =>
            rintro ⟨q, hq⟩ -
            conv => whnf
            refine brd (fun hlt => ?_) (fun hge => ?_)
            · ((try conv => whnf) <;> (repeat (first | exact True.intro | ((first | refine ⟨rfl, ?_⟩ | refine ar (by omega) (by omega) ?_ | refine ar8 (by omega) (by omega) ?_ | refine ix (by omega) ?_ | refine IdxVC.mk 0 rfl (by omega) ?_ | refine BytesVC.mk _ rfl ?_ | refine DivVC.mk (by omega) (by omega) ?_); try conv => whnf))))
              refine .mk (512 + 1024 * p + 1024 * q) (512 + 1024 * p + 1024 * q + 1024) (by omega) (by omega) (by omega) (by omega) ?_
              rw [if_neg (show ¬ k = 512 + 1024 * p + 1024 * q by omega)]
              ((try conv => whnf) <;> (repeat (first | exact True.intro | ((first | refine ⟨rfl, ?_⟩ | refine ar (by omega) (by omega) ?_ | refine ar8 (by omega) (by omega) ?_ | refine ix (by omega) ?_ | refine IdxVC.mk 0 rfl (by omega) ?_ | refine BytesVC.mk _ rfl ?_ | refine DivVC.mk (by omega) (by omega) ?_); try conv => whnf))))
              refine .mk (by rw [imgF_length]; omega) ?_
              ((try conv => whnf) <;> (repeat (first | exact True.intro | ((first | refine ⟨rfl, ?_⟩ | refine ar (by omega) (by omega) ?_ | refine ar8 (by omega) (by omega) ?_ | refine ix (by omega) ?_ | refine IdxVC.mk 0 rfl (by omega) ?_ | refine BytesVC.mk _ rfl ?_ | refine DivVC.mk (by omega) (by omega) ?_); try conv => whnf))))
              have hx0 := strs_at (fun x => if x < q then pageAt (imgF fin k) gb p x else zrs 1024) p q (by omega)
              refine .mk _ _ hx0 rfl (Nat.le_refl _) ?_
              ((try conv => whnf) <;> (repeat (first | exact True.intro | ((first | refine ⟨rfl, ?_⟩ | refine ar (by omega) (by omega) ?_ | refine ar8 (by omega) (by omega) ?_ | refine ix (by omega) ?_ | refine IdxVC.mk 0 rfl (by omega) ?_ | refine BytesVC.mk _ rfl ?_ | refine DivVC.mk (by omega) (by omega) ?_); try conv => whnf))))
              have hdiv : gb / 2 ^ q < 256 := Nat.lt_of_le_of_lt (Nat.div_le_self _ _) hgl
              have hq0 : List.take 1024 (List.drop (512 + 1024 * p + 1024 * q) (imgF fin k)) = pageAt (imgF fin k) gb p q ∨ (q < 8 ∧ gb / 2 ^ q % 2 = 1) := by
                by_cases h : q < 8 ∧ gb / 2 ^ q % 2 = 1
                · exact .inr h
                · left; unfold pageAt; rw [if_neg h]
              have hend : ∀ v, v = pageAt (imgF fin k) gb p q → (List.range p).map (fun x => if x = q then v else if x < q then pageAt (imgF fin k) gb p x else zrs 1024) = (List.range p).map (fun x => if x < q + 1 then pageAt (imgF fin k) gb p x else zrs 1024) := by
                intro v hv
                apply wide_eq
                intro x hx
                by_cases h : x = q
                · subst h; rw [if_pos rfl, if_pos (by omega), hv]
                · rw [if_neg h]
                  by_cases h2 : x < q
                  · rw [if_pos h2, if_pos (by omega)]
                  · rw [if_neg h2, if_neg (by omega)]
              refine brd (fun h8 => ?_) (fun h8 => ?_)
              · ((try conv => whnf) <;> (repeat (first | exact True.intro | ((first | refine ⟨rfl, ?_⟩ | refine ar (by omega) (by omega) ?_ | refine ar8 (by omega) (by omega) ?_ | refine ix (by omega) ?_ | refine IdxVC.mk 0 rfl (by omega) ?_ | refine BytesVC.mk _ rfl ?_ | refine DivVC.mk (by omega) (by omega) ?_); try conv => whnf))))
                refine .mk q rfl (by show q ≤ 8; omega) ?_
                ((try conv => whnf) <;> (repeat (first | exact True.intro | ((first | refine ⟨rfl, ?_⟩ | refine ar (by omega) (by omega) ?_ | refine ar8 (by omega) (by omega) ?_ | refine ix (by omega) ?_ | refine IdxVC.mk 0 rfl (by omega) ?_ | refine BytesVC.mk _ rfl ?_ | refine DivVC.mk (by omega) (by omega) ?_); try conv => whnf))))
                have ediv : (gb : Int) / 2 ^ q = ((gb / 2 ^ q : Nat) : Int) := by simp
                rw [ediv, and_one _ hdiv]
                refine brd (fun hb => ?_) (fun hb => ?_)
                · have hb1 : gb / 2 ^ q % 2 = 1 := by omega
                  ((try conv => whnf) <;> (repeat (first | exact True.intro | ((first | refine ⟨rfl, ?_⟩ | refine ar (by omega) (by omega) ?_ | refine ar8 (by omega) (by omega) ?_ | refine ix (by omega) ?_ | refine IdxVC.mk 0 rfl (by omega) ?_ | refine BytesVC.mk _ rfl ?_ | refine DivVC.mk (by omega) (by omega) ?_); try conv => whnf))))
                  refine .mk (512 + 1024 * q) (512 + 1024 * q + 1024) (by omega) (by omega) (by omega) (by omega) ?_
                  rw [if_neg (show ¬ k = 512 + 1024 * q by omega)]
                  ((try conv => whnf) <;> (repeat (first | exact True.intro | ((first | refine ⟨rfl, ?_⟩ | refine ar (by omega) (by omega) ?_ | refine ar8 (by omega) (by omega) ?_ | refine ix (by omega) ?_ | refine IdxVC.mk 0 rfl (by omega) ?_ | refine BytesVC.mk _ rfl ?_ | refine DivVC.mk (by omega) (by omega) ?_); try conv => whnf))))
                  refine .mk (by rw [imgF_length]; omega) ?_
                  ((try conv => whnf) <;> (repeat (first | exact True.intro | ((first | refine ⟨rfl, ?_⟩ | refine ar (by omega) (by omega) ?_ | refine ar8 (by omega) (by omega) ?_ | refine ix (by omega) ?_ | refine IdxVC.mk 0 rfl (by omega) ?_ | refine BytesVC.mk _ rfl ?_ | refine DivVC.mk (by omega) (by omega) ?_); try conv => whnf))))
                  refine .mk _ _ (strs_set_at _ p q _ (by omega)) rfl (Nat.le_refl _) ?_
                  ((try conv => whnf) <;> (repeat (first | exact True.intro | ((first | refine ⟨rfl, ?_⟩ | refine ar (by omega) (by omega) ?_ | refine ar8 (by omega) (by omega) ?_ | refine ix (by omega) ?_ | refine IdxVC.mk 0 rfl (by omega) ?_ | refine BytesVC.mk _ rfl ?_ | refine DivVC.mk (by omega) (by omega) ?_); try conv => whnf))))
                  refine ⟨⟨q + 1, by omega⟩, show p - (q + 1) < p - q by omega, ?_⟩
                  ((try conv => whnf) <;> (repeat (first | exact True.intro | ((first | refine ⟨rfl, ?_⟩ | refine ar (by omega) (by omega) ?_ | refine ar8 (by omega) (by omega) ?_ | refine ix (by omega) ?_ | refine IdxVC.mk 0 rfl (by omega) ?_ | refine BytesVC.mk _ rfl ?_ | refine DivVC.mk (by omega) (by omega) ?_); try conv => whnf))))
                  refine ⟨strs_row2 _ _ _ _ _ _ _ _ _ (hend _ (by unfold pageAt; rw [if_pos ⟨by omega, hb1⟩, Nat.zero_add, show 512 + 1024 * q + 1024 - (512 + 1024 * q) = 1024 by omega])), ?_⟩
                  ((try conv => whnf) <;> (repeat (first | exact True.intro | ((first | refine ⟨rfl, ?_⟩ | refine ar (by omega) (by omega) ?_ | refine ar8 (by omega) (by omega) ?_ | refine ix (by omega) ?_ | refine IdxVC.mk 0 rfl (by omega) ?_ | refine BytesVC.mk _ rfl ?_ | refine DivVC.mk (by omega) (by omega) ?_); try conv => whnf))))
                · have hb1 : ¬ gb / 2 ^ q % 2 = 1 := by omega
                  ((try conv => whnf) <;> (repeat (first | exact True.intro | ((first | refine ⟨rfl, ?_⟩ | refine ar (by omega) (by omega) ?_ | refine ar8 (by omega) (by omega) ?_ | refine ix (by omega) ?_ | refine IdxVC.mk 0 rfl (by omega) ?_ | refine BytesVC.mk _ rfl ?_ | refine DivVC.mk (by omega) (by omega) ?_); try conv => whnf))))
                  refine ⟨⟨q + 1, by omega⟩, show p - (q + 1) < p - q by omega, ?_⟩
                  ((try conv => whnf) <;> (repeat (first | exact True.intro | ((first | refine ⟨rfl, ?_⟩ | refine ar (by omega) (by omega) ?_ | refine ar8 (by omega) (by omega) ?_ | refine ix (by omega) ?_ | refine IdxVC.mk 0 rfl (by omega) ?_ | refine BytesVC.mk _ rfl ?_ | refine DivVC.mk (by omega) (by omega) ?_); try conv => whnf))))
                  refine ⟨strs_row _ _ _ _ _ _ _ _ (hend _ (by unfold pageAt; rw [if_neg (fun h => hb1 h.2), Nat.zero_add, show 512 + 1024 * p + 1024 * q + 1024 - (512 + 1024 * p + 1024 * q) = 1024 by omega])), ?_⟩
                  ((try conv => whnf) <;> (repeat (first | exact True.intro | ((first | refine ⟨rfl, ?_⟩ | refine ar (by omega) (by omega) ?_ | refine ar8 (by omega) (by omega) ?_ | refine ix (by omega) ?_ | refine IdxVC.mk 0 rfl (by omega) ?_ | refine BytesVC.mk _ rfl ?_ | refine DivVC.mk (by omega) (by omega) ?_); try conv => whnf))))
              · ((try conv => whnf) <;> (repeat (first | exact True.intro | ((first | refine ⟨rfl, ?_⟩ | refine ar (by omega) (by omega) ?_ | refine ar8 (by omega) (by omega) ?_ | refine ix (by omega) ?_ | refine IdxVC.mk 0 rfl (by omega) ?_ | refine BytesVC.mk _ rfl ?_ | refine DivVC.mk (by omega) (by omega) ?_); try conv => whnf))))
                refine ⟨⟨q + 1, by omega⟩, show p - (q + 1) < p - q by omega, ?_⟩
                ((try conv => whnf) <;> (repeat (first | exact True.intro | ((first | refine ⟨rfl, ?_⟩ | refine ar (by omega) (by omega) ?_ | refine ar8 (by omega) (by omega) ?_ | refine ix (by omega) ?_ | refine IdxVC.mk 0 rfl (by omega) ?_ | refine BytesVC.mk _ rfl ?_ | refine DivVC.mk (by omega) (by omega) ?_); try conv => whnf))))
                refine ⟨strs_row _ _ _ _ _ _ _ _ (hend _ (by unfold pageAt; rw [if_neg (fun h => h8 (by omega)), Nat.zero_add, show 512 + 1024 * p + 1024 * q + 1024 - (512 + 1024 * p + 1024 * q) = 1024 by omega])), ?_⟩
                ((try conv => whnf) <;> (repeat (first | exact True.intro | ((first | refine ⟨rfl, ?_⟩ | refine ar (by omega) (by omega) ?_ | refine ar8 (by omega) (by omega) ?_ | refine ix (by omega) ?_ | refine IdxVC.mk 0 rfl (by omega) ?_ | refine BytesVC.mk _ rfl ?_ | refine DivVC.mk (by omega) (by omega) ?_); try conv => whnf))))
            · obtain rfl : q = p := by omega
              obtain ⟨img, himg⟩ : ∃ i, i = imgF fin k := ⟨_, rfl⟩
              have hil : img.length = k := by rw [himg, imgF_length]
              rw [← himg]
              ((try conv => whnf) <;> (repeat (first | exact True.intro | ((first | refine ⟨rfl, ?_⟩ | refine ar (by omega) (by omega) ?_ | refine ar8 (by omega) (by omega) ?_ | refine ix (by omega) ?_ | refine IdxVC.mk 0 rfl (by omega) ?_ | refine BytesVC.mk _ rfl ?_ | refine DivVC.mk (by omega) (by omega) ?_); try conv => whnf))))
              refine call_con (N := [20]) (Load_con _ img k ⟨4 * q + 1 + more, by omega, by omega, by omega⟩) ?_
              ((try conv => whnf) <;> (repeat (first | exact True.intro | ((first | refine ⟨rfl, ?_⟩ | refine ar (by omega) (by omega) ?_ | refine ar8 (by omega) (by omega) ?_ | refine ix (by omega) ?_ | refine IdxVC.mk 0 rfl (by omega) ?_ | refine BytesVC.mk _ rfl ?_ | refine DivVC.mk (by omega) (by omega) ?_); try conv => whnf))))
              refine ⟨by rw [hil], ?_⟩
              ((try conv => whnf) <;> (repeat (first | exact True.intro | ((first | refine ⟨rfl, ?_⟩ | refine ar (by omega) (by omega) ?_ | refine ar8 (by omega) (by omega) ?_ | refine ix (by omega) ?_ | refine IdxVC.mk 0 rfl (by omega) ?_ | refine BytesVC.mk _ rfl ?_ | refine DivVC.mk (by omega) (by omega) ?_); try conv => whnf))))
              rintro x P2 H' - ⟨rfl, rfl, rfl⟩
              ((try conv => whnf) <;> (repeat (first | exact True.intro | ((first | refine ⟨rfl, ?_⟩ | refine ar (by omega) (by omega) ?_ | refine ar8 (by omega) (by omega) ?_ | refine ix (by omega) ?_ | refine IdxVC.mk 0 rfl (by omega) ?_ | refine BytesVC.mk _ rfl ?_ | refine DivVC.mk (by omega) (by omega) ?_); try conv => whnf))))
              refine call_con (N := [20]) (Load_con _ img k ⟨4 * q + 1 + more, by omega, by omega, by omega⟩) ?_
              ((try conv => whnf) <;> (repeat (first | exact True.intro | ((first | refine ⟨rfl, ?_⟩ | refine ar (by omega) (by omega) ?_ | refine ar8 (by omega) (by omega) ?_ | refine ix (by omega) ?_ | refine IdxVC.mk 0 rfl (by omega) ?_ | refine BytesVC.mk _ rfl ?_ | refine DivVC.mk (by omega) (by omega) ?_); try conv => whnf))))
              refine ⟨by rw [hil], ?_⟩
              ((try conv => whnf) <;> (repeat (first | exact True.intro | ((first | refine ⟨rfl, ?_⟩ | refine ar (by omega) (by omega) ?_ | refine ar8 (by omega) (by omega) ?_ | refine ix (by omega) ?_ | refine IdxVC.mk 0 rfl (by omega) ?_ | refine BytesVC.mk _ rfl ?_ | refine DivVC.mk (by omega) (by omega) ?_); try conv => whnf))))
              rintro x P3 H' - ⟨rfl, rfl, rfl⟩
              ((try conv => whnf) <;> (repeat (first | exact True.intro | ((first | refine ⟨rfl, ?_⟩ | refine ar (by omega) (by omega) ?_ | refine ar8 (by omega) (by omega) ?_ | refine ix (by omega) ?_ | refine IdxVC.mk 0 rfl (by omega) ?_ | refine BytesVC.mk _ rfl ?_ | refine DivVC.mk (by omega) (by omega) ?_); try conv => whnf))))
              obtain ⟨n, hn⟩ : ∃ n, n = 4 * q + 1 + more := ⟨_, rfl⟩
              obtain ⟨D1, ho1, ho2, ho3, ho4⟩ := give_open img n q more gb (by omega) (by omega) hm3 hn (by omega) (by rw [hgb]; exact gBits_lt J st q) (fun h => by rw [himg, hfin]; exact fin_none J st q k (by omega) (by omega)) (fun h => by rw [himg, hfin, hgb]; exact fin_marker J st q k (by omega) (by omega))
              obtain ⟨D2, hc1, hc2, hc3, hc4⟩ := give_clear img n q more (by omega) (by omega) hm3 hn (by omega)
              refine call_con (N := [21]) (Open_con _ (Dev.fresh img) D1 q _ (by show 0 ≤ _; omega) ho1) ?_
              ((try conv => whnf) <;> (repeat (first | exact True.intro | ((first | refine ⟨rfl, ?_⟩ | refine ar (by omega) (by omega) ?_ | refine ar8 (by omega) (by omega) ?_ | refine ix (by omega) ?_ | refine IdxVC.mk 0 rfl (by omega) ?_ | refine BytesVC.mk _ rfl ?_ | refine DivVC.mk (by omega) (by omega) ?_); try conv => whnf))))
              rintro x P4 H' - ⟨rfl, rfl, rfl⟩
              ((try conv => whnf) <;> (repeat (first | exact True.intro | ((first | refine ⟨rfl, ?_⟩ | refine ar (by omega) (by omega) ?_ | refine ar8 (by omega) (by omega) ?_ | refine ix (by omega) ?_ | refine IdxVC.mk 0 rfl (by omega) ?_ | refine BytesVC.mk _ rfl ?_ | refine DivVC.mk (by omega) (by omega) ?_); try conv => whnf))))
              refine call_con (N := []) (Clear_con _ (Dev.fresh img) D2 (by show 0 ≤ _; omega) hc1) ?_
              ((try conv => whnf) <;> (repeat (first | exact True.intro | ((first | refine ⟨rfl, ?_⟩ | refine ar (by omega) (by omega) ?_ | refine ar8 (by omega) (by omega) ?_ | refine ix (by omega) ?_ | refine IdxVC.mk 0 rfl (by omega) ?_ | refine BytesVC.mk _ rfl ?_ | refine DivVC.mk (by omega) (by omega) ?_); try conv => whnf))))
              rintro x P5 H' - ⟨rfl, rfl, rfl⟩
              ((try conv => whnf) <;> (repeat (first | exact True.intro | ((first | refine ⟨rfl, ?_⟩ | refine ar (by omega) (by omega) ?_ | refine ar8 (by omega) (by omega) ?_ | refine ix (by omega) ?_ | refine IdxVC.mk 0 rfl (by omega) ?_ | refine BytesVC.mk _ rfl ?_ | refine DivVC.mk (by omega) (by omega) ?_); try conv => whnf))))
              refine br (fun h9 => ?_) (fun h9 => ?_)
              · exfalso
                by_cases h : gb = 0
                · simp [h] at h9
                · have hi : ¬ (gb : Int) = 0 := by omega
                  simp [h, hi] at h9
              · ((try conv => whnf) <;> (repeat (first | exact True.intro | ((first | refine ⟨rfl, ?_⟩ | refine ar (by omega) (by omega) ?_ | refine ar8 (by omega) (by omega) ?_ | refine ix (by omega) ?_ | refine IdxVC.mk 0 rfl (by omega) ?_ | refine BytesVC.mk _ rfl ?_ | refine DivVC.mk (by omega) (by omega) ?_); try conv => whnf))))
                refine .mk (512 * (1 + 2 * q)) (512 * (1 + 2 * q)) (by omega) (by omega) (Nat.le_refl _) (by simp; omega) (by omega) ?_
                ((try conv => whnf) <;> (repeat (first | exact True.intro | ((first | refine ⟨rfl, ?_⟩ | refine ar (by omega) (by omega) ?_ | refine ar8 (by omega) (by omega) ?_ | refine ix (by omega) ?_ | refine IdxVC.mk 0 rfl (by omega) ?_ | refine BytesVC.mk _ rfl ?_ | refine DivVC.mk (by omega) (by omega) ?_); try conv => whnf))))
                refine .mk (by simp) ?_
                ((try conv => whnf) <;> (repeat (first | exact True.intro | ((first | refine ⟨rfl, ?_⟩ | refine ar (by omega) (by omega) ?_ | refine ar8 (by omega) (by omega) ?_ | refine ix (by omega) ?_ | refine IdxVC.mk 0 rfl (by omega) ?_ | refine BytesVC.mk _ rfl ?_ | refine DivVC.mk (by omega) (by omega) ?_); try conv => whnf))))
                obtain ⟨pg, hpg⟩ : ∃ pg, pg = (List.range q).map (pageAt img gb q) := ⟨_, rfl⟩
                have hpgl : pg.length = q := by rw [hpg]; simp
                have epg : (List.range q).map (fun x => if x < q then pageAt img gb q x else zrs 1024) = pg := by
                  rw [hpg]
                  exact wide_eq _ _ q fun x hx => if_pos hx
                have hpl : ∀ x ∈ pg, x.length = 1024 := by
                  rw [hpg]
                  intro x hx
                  obtain ⟨y, hy, rfl⟩ := List.mem_map.1 hx
                  exact pageAt_length img gb q y n (by omega) (by omega) (List.mem_range.1 hy)
                have hfl : ∀ j, j ≤ q → (pg.take j).flatten.length = 1024 * j := by
                  intro j hj
                  have e : (pg.take j).map List.length = List.replicate j 1024 := by
                    rw [List.eq_replicate_iff]
                    refine ⟨by simp; omega, fun b hb => ?_⟩
                    obtain ⟨y, hy, rfl⟩ := List.mem_map.1 hb
                    exact hpl y (List.mem_of_mem_take hy)
                  rw [List.length_flatten, e, List.sum_replicate_nat]
                  omega
                refine .mk (β := { k : Nat // k ≤ q }) (fun ⟨j, _⟩ => ⟨[(26, .raw (.int .i64 (j : Int))), (25, .raw (.string ⟨(pg.take j).flatten.toArray⟩)), (24, .raw (.string ⟨(zrs (512 * (1 + 2 * q))).toArray⟩)), (9, .sl 51 1 0 k k), (7, .ptr 31 0), (16, .ptr 176 0), (18, .ptr 181 0)], P5, [.row 51 5 k (Eng.bytes img), .blk 31 44 [.ptr 100031 0, .ptr 200031 0, .raw (.int .i64 (q : Int)), .raw (.int .i64 (more : Int)), .sl 300031 1 0 q pc], .row 300031 9 pc (strsC pg), dC 181 D2, dC 176 D1]⟩) (fun j => q - j.1) ⟨0, by omega⟩ ?_ ?_
                · ((try conv => whnf) <;> (repeat (first | exact True.intro | ((first | refine ⟨rfl, ?_⟩ | refine ar (by omega) (by omega) ?_ | refine ar8 (by omega) (by omega) ?_ | refine ix (by omega) ?_ | refine IdxVC.mk 0 rfl (by omega) ?_ | refine BytesVC.mk _ rfl ?_ | refine DivVC.mk (by omega) (by omega) ?_); try conv => whnf))))
                  refine ⟨congrArg (fun l : List UInt8 => SV.raw (Value.string ⟨l.toArray⟩)) (List.take_of_length_le (by simp)), ?_⟩
                  ((try conv => whnf) <;> (repeat (first | exact True.intro | ((first | refine ⟨rfl, ?_⟩ | refine ar (by omega) (by omega) ?_ | refine ar8 (by omega) (by omega) ?_ | refine ix (by omega) ?_ | refine IdxVC.mk 0 rfl (by omega) ?_ | refine BytesVC.mk _ rfl ?_ | refine DivVC.mk (by omega) (by omega) ?_); try conv => whnf))))
                  refine ⟨by rw [epg], ?_⟩
                  ((try conv => whnf) <;> (repeat (first | exact True.intro | ((first | refine ⟨rfl, ?_⟩ | refine ar (by omega) (by omega) ?_ | refine ar8 (by omega) (by omega) ?_ | refine ix (by omega) ?_ | refine IdxVC.mk 0 rfl (by omega) ?_ | refine BytesVC.mk _ rfl ?_ | refine DivVC.mk (by omega) (by omega) ?_); try conv => whnf))))
                · rintro ⟨j, hj⟩ -
                  conv => whnf
                  refine brd (fun hlt => ?_) (fun hge => ?_)
                  · ((try conv => whnf) <;> (repeat (first | exact True.intro | ((first | refine ⟨rfl, ?_⟩ | refine ar (by omega) (by omega) ?_ | refine ar8 (by omega) (by omega) ?_ | refine ix (by omega) ?_ | refine IdxVC.mk 0 rfl (by omega) ?_ | refine BytesVC.mk _ rfl ?_ | refine DivVC.mk (by omega) (by omega) ?_); try conv => whnf))))
                    have hjp : j < pg.length := by omega
                    refine .mk (pg[j]) (by show pg[0 + j]? = _; rw [Nat.zero_add]; exact List.getElem?_eq_getElem hjp) ?_
                    ((try conv => whnf) <;> (repeat (first | exact True.intro | ((first | refine ⟨rfl, ?_⟩ | refine ar (by omega) (by omega) ?_ | refine ar8 (by omega) (by omega) ?_ | refine ix (by omega) ?_ | refine IdxVC.mk 0 rfl (by omega) ?_ | refine BytesVC.mk _ rfl ?_ | refine DivVC.mk (by omega) (by omega) ?_); try conv => whnf))))
                    refine ⟨by
                      show (List.take j pg).flatten.toArray.size + pg[j].toArray.size ≤ _
                      rw [List.size_toArray, List.size_toArray, hfl j hj, hpl _ (List.getElem_mem hjp)]
                      omega, ?_⟩
                    ((try conv => whnf) <;> (repeat (first | exact True.intro | ((first | refine ⟨rfl, ?_⟩ | refine ar (by omega) (by omega) ?_ | refine ar8 (by omega) (by omega) ?_ | refine ix (by omega) ?_ | refine IdxVC.mk 0 rfl (by omega) ?_ | refine BytesVC.mk _ rfl ?_ | refine DivVC.mk (by omega) (by omega) ?_); try conv => whnf))))
                    refine ⟨⟨j + 1, by omega⟩, show q - (j + 1) < q - j by omega, ?_⟩
                    ((try conv => whnf) <;> (repeat (first | exact True.intro | ((first | refine ⟨rfl, ?_⟩ | refine ar (by omega) (by omega) ?_ | refine ar8 (by omega) (by omega) ?_ | refine ix (by omega) ?_ | refine IdxVC.mk 0 rfl (by omega) ?_ | refine BytesVC.mk _ rfl ?_ | refine DivVC.mk (by omega) (by omega) ?_); try conv => whnf))))
                    refine ⟨by
                      have e : (List.take (j + 1) pg).flatten = (List.take j pg).flatten ++ pg[j] := by
                        rw [List.take_add_one, List.getElem?_eq_getElem hjp, List.flatten_append]
                        simp
                      rw [e, gs_app], ?_⟩
                    ((try conv => whnf) <;> (repeat (first | exact True.intro | ((first | refine ⟨rfl, ?_⟩ | refine ar (by omega) (by omega) ?_ | refine ar8 (by omega) (by omega) ?_ | refine ix (by omega) ?_ | refine IdxVC.mk 0 rfl (by omega) ?_ | refine BytesVC.mk _ rfl ?_ | refine DivVC.mk (by omega) (by omega) ?_); try conv => whnf))))
                  · obtain rfl : j = q := by omega
                    ((try conv => whnf) <;> (repeat (first | exact True.intro | ((first | refine ⟨rfl, ?_⟩ | refine ar (by omega) (by omega) ?_ | refine ar8 (by omega) (by omega) ?_ | refine ix (by omega) ?_ | refine IdxVC.mk 0 rfl (by omega) ?_ | refine BytesVC.mk _ rfl ?_ | refine DivVC.mk (by omega) (by omega) ?_); try conv => whnf))))
                    refine call_con (N := []) (Need_con (j : Int) _) ?_
                    rw [hneed]
                    ((try conv => whnf) <;> (repeat (first | exact True.intro | ((first | refine ⟨rfl, ?_⟩ | refine ar (by omega) (by omega) ?_ | refine ar8 (by omega) (by omega) ?_ | refine ix (by omega) ?_ | refine IdxVC.mk 0 rfl (by omega) ?_ | refine BytesVC.mk _ rfl ?_ | refine DivVC.mk (by omega) (by omega) ?_); try conv => whnf))))
                    rintro x P6 H' - ⟨rfl, rfl, rfl⟩
                    ((try conv => whnf) <;> (repeat (first | exact True.intro | ((first | refine ⟨rfl, ?_⟩ | refine ar (by omega) (by omega) ?_ | refine ar8 (by omega) (by omega) ?_ | refine ix (by omega) ?_ | refine IdxVC.mk 0 rfl (by omega) ?_ | refine BytesVC.mk _ rfl ?_ | refine DivVC.mk (by omega) (by omega) ?_); try conv => whnf))))
                    refine .mk (512 * (1 + 2 * j)) (512 * (4 * j + 1)) (by show ((zrs (512 * (1 + 2 * j))).toArray.size : Int) = _; rw [List.size_toArray, zrs_length]) (by omega) (by omega) (by omega) ?_
                    rw [if_neg (show ¬ k = 512 * (1 + 2 * j) by omega)]
                    ((try conv => whnf) <;> (repeat (first | exact True.intro | ((first | refine ⟨rfl, ?_⟩ | refine ar (by omega) (by omega) ?_ | refine ar8 (by omega) (by omega) ?_ | refine ix (by omega) ?_ | refine IdxVC.mk 0 rfl (by omega) ?_ | refine BytesVC.mk _ rfl ?_ | refine DivVC.mk (by omega) (by omega) ?_); try conv => whnf))))
                    refine .mk (by omega) ?_
                    have hfj := hfl j (Nat.le_refl _)
                    have hl1 : ∀ (a b : List UInt8), (⟨a.toArray⟩ : ByteArray).size + (⟨b.toArray⟩ : ByteArray).size = a.length + b.length := fun a b => rfl
                    ((set_option smartUnfolding false in conv => whnf) <;> (repeat (first | exact True.intro | ((first | refine ⟨rfl, ?_⟩ | refine ar (by omega) (by omega) ?_ | refine ar8 (by omega) (by omega) ?_ | refine ix (by omega) ?_ | refine IdxVC.mk 0 rfl (by omega) ?_ | refine BytesVC.mk _ rfl ?_ | refine DivVC.mk (by omega) (by omega) ?_); set_option smartUnfolding false in conv => whnf))))
                    refine ⟨by rw [hl1, zrs_length, hfj]; omega, ?_⟩
                    rw [gs_app]
                    ((set_option smartUnfolding false in conv => whnf) <;> (repeat (first | exact True.intro | ((first | refine ⟨rfl, ?_⟩ | refine ar (by omega) (by omega) ?_ | refine ar8 (by omega) (by omega) ?_ | refine ix (by omega) ?_ | refine IdxVC.mk 0 rfl (by omega) ?_ | refine BytesVC.mk _ rfl ?_ | refine DivVC.mk (by omega) (by omega) ?_); set_option smartUnfolding false in conv => whnf))))
                    obtain ⟨en, hen⟩ : ∃ en, en = 512 * (4 * j + 1) := ⟨_, rfl⟩
                    refine .mk en k (by omega) rfl (by omega) (Nat.le_refl _) ?_
                    obtain ⟨o, ho⟩ : ∃ o, o = (if k = en then 0 else 0 + en) := ⟨_, rfl⟩
                    have hof1 : o + (k - en) ≤ k := by rw [ho]; split <;> omega
                    have hof2 : (img.drop o).take (k - en) = img.drop en := by
                      rw [ho]
                      split
                      · rename_i h
                        rw [← h, Nat.sub_self, List.take_zero, List.drop_eq_nil_of_le (by omega)]
                      · rw [Nat.zero_add, List.take_of_length_le (by rw [List.length_drop]; omega)]
                    rw [← ho]
                    ((set_option smartUnfolding false in conv => whnf) <;> (repeat (first | exact True.intro | ((first | refine ⟨rfl, ?_⟩ | refine ar (by omega) (by omega) ?_ | refine ar8 (by omega) (by omega) ?_ | refine ix (by omega) ?_ | refine IdxVC.mk 0 rfl (by omega) ?_ | refine BytesVC.mk _ rfl ?_ | refine DivVC.mk (by omega) (by omega) ?_); set_option smartUnfolding false in conv => whnf))))
                    have hI1 : D1.img.length = n * 512 := ho2.img
                    have hI2 : D2.img.length = n * 512 := hc2.img
                    have hE1 : List.take D1.img.length (List.drop 0 D1.img) = zrs (512 * (1 + 2 * j)) ++ (List.take j pg).flatten ++ List.take (k - en) (List.drop o img) := by
                      rw [List.drop_zero, List.take_length, ho4, hof2, List.take_of_length_le (by omega), hpg, hen]
                    have hE2 : List.take D2.img.length (List.drop 0 D2.img) = zrs (512 * (1 + 2 * j)) ++ List.take (512 * (4 * j + 1) - 512 * (1 + 2 * j)) (List.drop (0 + 512 * (1 + 2 * j)) img) ++ List.take (512 * more) (List.drop 0 (List.replicate (512 * more) 0)) := by
                      rw [List.drop_zero, List.take_length, hc4, List.drop_zero, List.take_of_length_le (l := List.replicate _ _) (by simp), Nat.zero_add, List.drop_take]
                      rfl
                    repeat' (first
                      | exact True.intro
                      | (refine FitVC.mk (by first | omega | (simp; done)) ?_; ((set_option smartUnfolding false in conv => whnf) <;> (repeat (first | exact True.intro | ((first | refine ⟨rfl, ?_⟩ | refine ar (by omega) (by omega) ?_ | refine ar8 (by omega) (by omega) ?_ | refine ix (by omega) ?_ | refine IdxVC.mk 0 rfl (by omega) ?_ | refine BytesVC.mk _ rfl ?_ | refine DivVC.mk (by omega) (by omega) ?_); set_option smartUnfolding false in conv => whnf)))))
                      | (refine brx (fun hx => ?_) (fun hx => (tl_ne hE1 hx).elim); ((set_option smartUnfolding false in conv => whnf) <;> (repeat (first | exact True.intro | ((first | refine ⟨rfl, ?_⟩ | refine ar (by omega) (by omega) ?_ | refine ar8 (by omega) (by omega) ?_ | refine ix (by omega) ?_ | refine IdxVC.mk 0 rfl (by omega) ?_ | refine BytesVC.mk _ rfl ?_ | refine DivVC.mk (by omega) (by omega) ?_); set_option smartUnfolding false in conv => whnf)))))
                      | (refine brx (fun hx => ?_) (fun hx => (tl_ne hE2 hx).elim); ((set_option smartUnfolding false in conv => whnf) <;> (repeat (first | exact True.intro | ((first | refine ⟨rfl, ?_⟩ | refine ar (by omega) (by omega) ?_ | refine ar8 (by omega) (by omega) ?_ | refine ix (by omega) ?_ | refine IdxVC.mk 0 rfl (by omega) ?_ | refine BytesVC.mk _ rfl ?_ | refine DivVC.mk (by omega) (by omega) ?_); set_option smartUnfolding false in conv => whnf)))))
                      | (refine call_con (N := [22]) (Image_con _ D1) ?_; ((set_option smartUnfolding false in conv => whnf) <;> (repeat (first | exact True.intro | ((first | refine ⟨rfl, ?_⟩ | refine ar (by omega) (by omega) ?_ | refine ar8 (by omega) (by omega) ?_ | refine ix (by omega) ?_ | refine IdxVC.mk 0 rfl (by omega) ?_ | refine BytesVC.mk _ rfl ?_ | refine DivVC.mk (by omega) (by omega) ?_); set_option smartUnfolding false in conv => whnf)))); rintro x P7 H' - ⟨cap1, rfl, rfl, rfl⟩; ((set_option smartUnfolding false in conv => whnf) <;> (repeat (first | exact True.intro | ((first | refine ⟨rfl, ?_⟩ | refine ar (by omega) (by omega) ?_ | refine ar8 (by omega) (by omega) ?_ | refine ix (by omega) ?_ | refine IdxVC.mk 0 rfl (by omega) ?_ | refine BytesVC.mk _ rfl ?_ | refine DivVC.mk (by omega) (by omega) ?_); set_option smartUnfolding false in conv => whnf)))))
                      | (refine call_con (N := [22]) (Image_con _ D2) ?_; ((set_option smartUnfolding false in conv => whnf) <;> (repeat (first | exact True.intro | ((first | refine ⟨rfl, ?_⟩ | refine ar (by omega) (by omega) ?_ | refine ar8 (by omega) (by omega) ?_ | refine ix (by omega) ?_ | refine IdxVC.mk 0 rfl (by omega) ?_ | refine BytesVC.mk _ rfl ?_ | refine DivVC.mk (by omega) (by omega) ?_); set_option smartUnfolding false in conv => whnf)))); rintro x P7 H' - ⟨cap1, rfl, rfl, rfl⟩; ((set_option smartUnfolding false in conv => whnf) <;> (repeat (first | exact True.intro | ((first | refine ⟨rfl, ?_⟩ | refine ar (by omega) (by omega) ?_ | refine ar8 (by omega) (by omega) ?_ | refine ix (by omega) ?_ | refine IdxVC.mk 0 rfl (by omega) ?_ | refine BytesVC.mk _ rfl ?_ | refine DivVC.mk (by omega) (by omega) ?_); set_option smartUnfolding false in conv => whnf)))))
                      | (refine call_con (N := []) (Cache_con _ D1 ho3) ?_; ((set_option smartUnfolding false in conv => whnf) <;> (repeat (first | exact True.intro | ((first | refine ⟨rfl, ?_⟩ | refine ar (by omega) (by omega) ?_ | refine ar8 (by omega) (by omega) ?_ | refine ix (by omega) ?_ | refine IdxVC.mk 0 rfl (by omega) ?_ | refine BytesVC.mk _ rfl ?_ | refine DivVC.mk (by omega) (by omega) ?_); set_option smartUnfolding false in conv => whnf)))); rintro x P7 H' - ⟨cap1, rfl, rfl, rfl⟩; ((set_option smartUnfolding false in conv => whnf) <;> (repeat (first | exact True.intro | ((first | refine ⟨rfl, ?_⟩ | refine ar (by omega) (by omega) ?_ | refine ar8 (by omega) (by omega) ?_ | refine ix (by omega) ?_ | refine IdxVC.mk 0 rfl (by omega) ?_ | refine BytesVC.mk _ rfl ?_ | refine DivVC.mk (by omega) (by omega) ?_); set_option smartUnfolding false in conv => whnf)))))
                      | (refine call_con (N := []) (Cache_con _ D2 hc3) ?_; ((set_option smartUnfolding false in conv => whnf) <;> (repeat (first | exact True.intro | ((first | refine ⟨rfl, ?_⟩ | refine ar (by omega) (by omega) ?_ | refine ar8 (by omega) (by omega) ?_ | refine ix (by omega) ?_ | refine IdxVC.mk 0 rfl (by omega) ?_ | refine BytesVC.mk _ rfl ?_ | refine DivVC.mk (by omega) (by omega) ?_); set_option smartUnfolding false in conv => whnf)))); rintro x P7 H' - ⟨cap1, rfl, rfl, rfl⟩; ((set_option smartUnfolding false in conv => whnf) <;> (repeat (first | exact True.intro | ((first | refine ⟨rfl, ?_⟩ | refine ar (by omega) (by omega) ?_ | refine ar8 (by omega) (by omega) ?_ | refine ix (by omega) ?_ | refine IdxVC.mk 0 rfl (by omega) ?_ | refine BytesVC.mk _ rfl ?_ | refine DivVC.mk (by omega) (by omega) ?_); set_option smartUnfolding false in conv => whnf)))))
                      | (refine MkVC.mk (512 * more) (512 * more) (by omega) (by omega) (Nat.le_refl _) (by simp; omega) (by omega) ?_; ((set_option smartUnfolding false in conv => whnf) <;> (repeat (first | exact True.intro | ((first | refine ⟨rfl, ?_⟩ | refine ar (by omega) (by omega) ?_ | refine ar8 (by omega) (by omega) ?_ | refine ix (by omega) ?_ | refine IdxVC.mk 0 rfl (by omega) ?_ | refine BytesVC.mk _ rfl ?_ | refine DivVC.mk (by omega) (by omega) ?_); set_option smartUnfolding false in conv => whnf)))))
                      | (refine ⟨by rw [hl1]; simp only [List.length_append, List.length_take, List.length_drop, List.length_replicate, zrs_length, hfj]; omega, ?_⟩; rw [gs_app]; ((set_option smartUnfolding false in conv => whnf) <;> (repeat (first | exact True.intro | ((first | refine ⟨rfl, ?_⟩ | refine ar (by omega) (by omega) ?_ | refine ar8 (by omega) (by omega) ?_ | refine ix (by omega) ?_ | refine IdxVC.mk 0 rfl (by omega) ?_ | refine BytesVC.mk _ rfl ?_ | refine DivVC.mk (by omega) (by omega) ?_); set_option smartUnfolding false in conv => whnf)))))
                      | (refine And.intro ?_ ?_ <;> ((set_option smartUnfolding false in conv => whnf) <;> (repeat (first | exact True.intro | ((first | refine ⟨rfl, ?_⟩ | refine ar (by omega) (by omega) ?_ | refine ar8 (by omega) (by omega) ?_ | refine ix (by omega) ?_ | refine IdxVC.mk 0 rfl (by omega) ?_ | refine BytesVC.mk _ rfl ?_ | refine DivVC.mk (by omega) (by omega) ?_); set_option smartUnfolding false in conv => whnf))))))
                    all_goals rfl
end Go.Proofs.Ytpaebopmppbjbaa
