/- The walk of wal's marked. -/
import Derived.Test.YtpaebopmppbjbaaWal4
set_option linter.unusedVariables false
set_option linter.unusedSimpArgs false
namespace Go.Le
open Go Go.RowKit
theorem and1_u8 (y : Nat) (hy : y < 256) : bits .and .u8 (y : Int) 1 = ((y % 2 : Nat) : Int) := by
  unfold bits
  have e : BitVec.ofInt IntKind.u8.bits (1 : Int) = (1#8 : BitVec 8) := rfl
  have a1 : BitVec.ofInt IntKind.u8.bits (y : Int) = BitVec.ofNat 8 y := by show BitVec.ofInt 8 _ = _; rw [BitVec.ofInt_natCast]
  rw [e, a1]
  show IntKind.u8.wrap (((BitVec.ofNat 8 y &&& 1#8).toNat : Nat) : Int) = _
  rw [BitVec.toNat_and, BitVec.toNat_ofNat, Nat.mod_eq_of_lt (by omega)]
  have e2 : y &&& 1 = y % 2 := Nat.and_two_pow_sub_one_eq_mod y 1
  show IntKind.u8.wrap (((y &&& 1 : Nat)) : Int) = _
  rw [e2]
  have : y % 2 < 2 := Nat.mod_lt _ (by omega)
  simp [IntKind.wrap, IntKind.bits, IntKind.signed]
  omega
theorem bit_u8 (x r : Nat) (hx : x < 256) : (bits .and .u8 ((x : Int) / 2 ^ r) 1 == 1) = (x / 2 ^ r % 2 == 1) := by
  have e : ((x : Int) / 2 ^ r) = ((x / 2 ^ r : Nat) : Int) := by simp
  have hlt : x / 2 ^ r < 256 := Nat.lt_of_le_of_lt (Nat.div_le_self _ _) hx
  rw [e, and1_u8 _ hlt, Bool.eq_iff_iff]
  simp only [beq_iff_eq]
  omega
theorem range_filter_snoc (f : Nat → Bool) (k : Nat) : (List.range (k + 1)).filter f = (List.range k).filter f ++ (if f k then [k] else []) := by
  rw [List.range_succ, List.filter_append]
  congr 1
  by_cases h : f k = true <;> simp [h]
end Go.Le
namespace Go.Proofs.Ytpaebopmppbjbaa
open Go Go.RowKit Go.Le
/-- numbers, new -/
def numsB (l : List Nat) (v : Value) : HP := rowB 3 l.length (nums l) v

set_option maxRecDepth 20000 in
set_option maxHeartbeats 2000000 in
theorem marked_head (wb w : World) (R : HP) (g : Nat) (D : Dev) (a : Option Addr) (c : Nat) (m : List UInt8) (hml : m.length = 512) (h : Mem wb w (devAt T8 g D * R)) (hs : ∀ w', Mem wb w' R → Sl w' a 512 c (byts m)) (p : Nat) (hp : p ≤ 250)
    (hx : m.getD 511 0 = 0 ∨ (m.getD 511 0 ≠ 0 ∧ (m.getD 511 0 ≠ 1 ∨ allZero ((m.drop 32).take 479) = false))) :
    Calls Try.prog 42 #[.agg #[.pointer (some ⟨g, 0, none⟩), .int .i64 (p : Int)], .slice a 512 c] w (IoSays wb g R (ioOf (marked m p) D) numsB) := by
  have hbx := h.alloc [.pointer (some ⟨g, 0, none⟩), .int .i64 (p : Int)] 54
  have hsl := hs _ hbx.right.right
  have hle := hsl.le
  have hcap := hsl.cap
  obtain ⟨b, o, rfl⟩ := hsl.addr (by omega)
  have hc1 := hsl.at 511 (by omega)
  have e3 : (byts m)[511]'(by rw [byts_length]; omega) = .int .u8 (((m.getD 511 0).toNat : Nat) : Int) := by
    simp [byts, byt, List.getD, List.getElem?_eq_getElem (show 511 < m.length by omega)]
  rw [e3] at hc1
  have hz := hsl.cut2 32 511 (some ⟨b, o + 32, none⟩) 479 (c - 32) (by omega) (by omega) (by rw [if_neg (by omega)]; simp [Addr.add]) (by omega) rfl
  rw [byts_take, byts_drop] at hz
  have ez : (m.take 511).drop 32 = (m.drop 32).take 479 := by rw [List.drop_take]
  rw [ez] at hz
  have HZ := hid (zero_any _ _ _ _ _ hz)
  have HM := hid hbx.right
  have c32 : ¬ c < 511 := by omega
  have c32' : 511 ≤ c := by omega
  have c32n : (c = 32) = False := by simp; omega
  have hmk : Hid (m.getD 511 0 = 0 → ioOf (marked m p) D = (.ok [], D)) := by
    show _ → _
    intro h0
    unfold marked
    rw [if_pos h0]
    rfl
  have hmk2 : Hid (m.getD 511 0 ≠ 0 → (m.getD 511 0 ≠ 1 ∨ allZero ((m.drop 32).take 479) = false) → ioOf (marked m p) D = (.error 90, D)) := by
    show _ → _ → _
    intro h0 h1
    unfold marked
    rw [if_neg h0, if_pos h1]
    rfl
  clear h hs hbx hsl hz e3 ez hml
  generalize m.getD 511 0 = x at *
  generalize allZero ((m.drop 32).take 479) = zz at *
  rcases hx with rfl | ⟨h0, h1⟩
  · have HI := hid (hmk.out rfl)
    rw [show ((0 : UInt8).toNat : Int) = 0 from rfl] at hc1
    clear hmk hmk2 c32n
    go_enter Try.func42, Try.ntmps42
    go_wp2_with fail
    go_ret
    refine IoSays.mkOk HI.out ?_
    exact Mem.rowB.2 ⟨none, 0, rfl, Mem.row_none.2 ⟨rfl, rfl, rfl, HM.out⟩⟩
  · have HI := hid (hmk2.out h0 h1)
    have x0 : ((x.toNat : Int) == 0) = false := by
      rw [Bool.eq_false_iff]; intro hx; apply h0; exact UInt8.toNat_inj.1 (by simpa using hx)
    clear hmk hmk2
    by_cases hx1 : x = 1
    · subst hx1
      have hzf : zz = false := by simpa using h1
      subst hzf
      rw [show ((1 : UInt8).toNat : Int) = 1 from rfl] at hc1
      clear h0 h1 x0
      go_enter Try.func42, Try.ntmps42
      go_wp2_with (first | (go_at_call 47; refine HZ.out.mono ?_; rintro e w' ⟨rfl, rfl⟩; dsimp only) | (go_at_call 39; refine (must_no _ 90 (by omega)).mono ?_; rintro e w' ⟨rfl, rfl⟩; dsimp only))
      exact ⟨rfl, IoSays.mkError HI.out (by omega) HM.out⟩
    · have x1 : ((x.toNat : Int) != 1) = true := by
        simp only [bne_iff_ne]; intro hx; apply hx1; exact UInt8.toNat_inj.1 (by show x.toNat = 1; omega)
      clear h0 h1 hx1 c32n
      go_enter Try.func42, Try.ntmps42
      go_wp2_with (go_at_call 39; refine (must_no _ 90 (by omega)).mono ?_; rintro e w' ⟨rfl, rfl⟩; dsimp only)
      exact ⟨rfl, IoSays.mkError HI.out (by omega) HM.out⟩

set_option maxRecDepth 20000 in
set_option maxHeartbeats 2000000 in
theorem marked_rest (wb w : World) (R : HP) (g : Nat) (D : Dev) (a : Option Addr) (c : Nat) (m : List UInt8) (hml : m.length = 512) (h : Mem wb w (devAt T8 g D * R)) (hs : ∀ w', Mem wb w' R → Sl w' a 512 c (byts m)) (p : Nat) (hp : p ≤ 250)
    (hx : m.getD 511 0 = 1) (hz : allZero ((m.drop 32).take 479) = true) :
    Calls Try.prog 42 #[.agg #[.pointer (some ⟨g, 0, none⟩), .int .i64 (p : Int)], .slice a 512 c] w (IoSays wb g R (ioOf (marked m p) D) numsB) := by
  have hbx := h.alloc [.pointer (some ⟨g, 0, none⟩), .int .i64 (p : Int)] 54
  have hsl := hs _ hbx.right.right
  have hle := hsl.le
  have hcap := hsl.cap
  obtain ⟨b, o, rfl⟩ := hsl.addr (by omega)
  have hc1 := hsl.at 511 (by omega)
  have e3 : (byts m)[511]'(by rw [byts_length]; omega) = .int .u8 1 := by
    have e4 : m[511]'(by omega) = 1 := by rw [← hx]; simp [List.getD, List.getElem?_eq_getElem (show 511 < m.length by omega)]
    simp [byts, byt, e4]
  rw [e3] at hc1
  have hz2 := hsl.cut2 32 511 (some ⟨b, o + 32, none⟩) 479 (c - 32) (by omega) (by omega) (by rw [if_neg (by omega)]; simp [Addr.add]) (by omega) rfl
  rw [byts_take, byts_drop] at hz2
  have ez : (m.take 511).drop 32 = (m.drop 32).take 479 := by rw [List.drop_take]
  rw [ez] at hz2
  have HZ := zero_any _ _ _ _ _ hz2
  rw [hz] at HZ
  have HZ := hid HZ
  have HM := hid (hbx.eq (by ac_rfl) : Mem wb _ (pts w.heap.size 54 [.pointer (some ⟨g, 0, none⟩), .int .i64 (p : Int)] * (devAt T8 g D * R)))
  have c32 : ¬ c < 511 := by omega
  have c32' : 511 ≤ c := by omega
  have c32n : (c = 32) = False := by simp; omega
  have HS : Hid (∀ w', Mem wb w' R → Sl w' (some ⟨b, o, none⟩) 512 c (byts m)) := hs
  have HML := hid hml
  have hmk : Hid (marked m p = if bitsOf m = [] ∨ p ≤ (bitsOf m).getLastD 0 then .error 90 else .ok (bitsOf m)) := by
    show _ = _
    unfold marked
    rw [hx, if_neg (by decide), if_neg (by rw [hz]; decide)]
  obtain ⟨i0, hi0, hz0, hz1, hz3⟩ := info_parts i64info
  have HI := hid (And.intro hi0 (And.intro hz0 (And.intro hz1 hz3)))
  clear h hs hbx hsl hz2 e3 ez hml hx hz hi0 hz0 hz1 hz3
  go_enter Try.func42, Try.ntmps42
  go_wp2_with (first | (go_at_call 47; refine HZ.out.mono ?_; rintro e w' ⟨rfl, rfl⟩; dsimp only))
  clear c32n
  go_loopw [5, 6, 22] (fun v _ i wr => ∃ (k : Nat) (a5 : Option Addr) (c5 : Nat), k ≤ 256 ∧ i = .int .i64 k ∧ v = .slice a5 ((List.range k).filter (pageBit m)).length c5 ∧
    Mem wb wr (row 3 1 a5 ((List.range k).filter (pageBit m)).length c5 (nums ((List.range k).filter (pageBit m))) * (pts w.heap.size 54 [.pointer (some ⟨g, 0, none⟩), .int .i64 (p : Int)] * (devAt T8 g D * R)))) (fun _ _ i _ => 256 - (intOf i).toNat)
  case atStart => exact ⟨0, none, 0, by omega, rfl, rfl, Mem.row_none.2 ⟨rfl, rfl, rfl, HM.out⟩⟩
  case round =>
    obtain ⟨k, a5, c5, hk, rfl, rfl, hm⟩ := hrel
    have HM2 := hid hm
    have hfl : ((List.range k).filter (pageBit m)).length ≤ 256 := Nat.le_trans (List.length_filter_le _ _) (by simp; omega)
    clear HM hm
    by_cases hlt : k < 256
    · have hsl := HS.out _ HM2.out.right.right.right
      have hcb := hsl.at (k / 8) (by omega)
      have hbit : Hid ((bits .and .u8 (((m.getD (k / 8) 0).toNat : Int) / 2 ^ (k % 8)) 1 == 1) = pageBit m k) := by
        show _ = _
        rw [bit_u8 _ _ (UInt8.toNat_lt _)]
        rfl
      have e3 : (byts m)[k / 8]'(by rw [byts_length, HML.out]; omega) = .int .u8 (((m.getD (k / 8) 0).toNat : Nat) : Int) := by
        simp [byts, byt, List.getD, List.getElem?_eq_getElem (show k / 8 < m.length by rw [HML.out]; omega)]
      rw [e3] at hcb
      have HSN := hid (range_filter_snoc (pageBit m) k)
      generalize (m.getD (k / 8) 0) = y at *
      have hd : (k : Int) / 8 < 512 := by omega
      obtain ⟨q, hq⟩ : ∃ q, q = k / 8 := ⟨_, rfl⟩
      have hqi : (k : Int) / 8 = (q : Int) := by omega
      obtain ⟨r, hr⟩ : ∃ r, r = k % 8 := ⟨_, rfl⟩
      have hri : (k : Int) % 8 = (r : Int) := by omega
      have hq64 : q < 512 := by omega
      have hr8 : r < 8 := by omega
      rw [← hq] at hcb
      rw [← hr] at hbit
      have kn : (k : Int) < 256 := by omega
      clear hq hr hsl e3 hd
      generalize hfe : (List.range k).filter (pageBit m) = fl at *
      have HFE := hid hfe
      clear hfe
      have HFL := hid hfl
      cases hpb : pageBit m k with
      | true =>
        rw [hpb] at hbit HSN
        have hb : bits .and .u8 ((y.toNat : Int) / 2 ^ r) 1 = 1 := by have := hbit.out; simpa using this
        clear hbit hpb
        obtain ⟨hi0, hz0, hz1, hz3⟩ := HI.out
        have hmA := HM2.out.alloc [.int .i64 (k : Int)] 3
        have hx := hmA.eq (sep_left_comm _ _ _)
        go_wp2_with ((with_reducible show wpList _ _ _ (Oper.mk (some 38) _ _ _ _ _ :: _) _ _); refine wpList_append (by rfl) (.tmp 35) (.tmp 37) 57 (by rfl) Try.underlying57 hi0 hz0 hz1 hz3 rfl (by omega) (by rfl) (by rfl) hx (by rfl) rfl (news_built hmA.blk.1) (fun h => by cases h) (by simp [Value.oneCell']) (by omega) (by omega) ?_; intro a' c' w2 hm2 _ _; clear hi0 hz0 hz1 hz3 hmA hx)
        have hm3 := hm2.duo_row.p1.right
        have hsn := HSN.out
        rw [if_pos rfl] at hsn
        have hnm : nums fl ++ [Value.int .i64 (k : Int)] = nums (fl ++ [k]) := by rw [nums_append]; rfl
        have hln : fl.length + 1 = (fl ++ [k]).length := by simp
        rw [hnm, hln, ← hsn] at hm3
        rw [hln, ← hsn]
        have HM3 := hid hm3
        clear hm2 hm3 HM2 hb hsn hnm hln
        go_wp2_with fail
        go_roundw
        case rel => exact ⟨k + 1, a', c', by omega, by go_num, rfl, HM3.out⟩
        case measure => simp [intOf] <;> omega
      | false =>
        rw [hpb] at hbit HSN
        have hb : (bits .and .u8 ((y.toNat : Int) / 2 ^ r) 1 == 1) = false := hbit.out
        have hsn := HSN.out
        rw [if_neg (by decide), List.append_nil] at hsn
        clear hbit hpb
        go_wp2_with fail
        go_roundw
        case rel => exact ⟨k + 1, a5, c5, by omega, by go_num, by rw [hsn], by rw [hsn]; exact HM2.out⟩
        case measure => simp [intOf] <;> omega
    · obtain rfl : k = 256 := by omega
      rw [show ((256 : Nat) : Int) = 256 from rfl]
      have hbo : (List.range 256).filter (pageBit m) = bitsOf m := rfl
      rw [hbo] at HM2 hfl
      rw [hbo]
      generalize bitsOf m = fl at *
      clear hbo
      by_cases hnil : fl = []
      · subst hnil
        have HI2 : Hid (ioOf (marked m p) D = (.error 90, D)) := by
          show _ = _
          rw [hmk.out, if_pos (.inl rfl)]
          rfl
        have HM4 := hid HM2.out.right.right
        clear hmk HM2
        rw [show ([] : List Nat).length = 0 from rfl]
        go_wp2_with fail
        go_quiet (fail)
        go_wp2_with (go_at_call 39; refine (must_no _ 90 (by omega)).mono ?_; rintro e w' ⟨rfl, rfl⟩; dsimp only)
        exact ⟨rfl, IoSays.mkError HI2.out (by omega) (HM4.out.drewN _)⟩
      · have hpos : 0 < fl.length := by cases fl with | nil => exact absurd rfl hnil | cons x r => simp
        obtain ⟨g5, rest5, rfl, r1, r2, r3, r4, hm5⟩ := HM2.out.row_at hpos
        obtain ⟨q, hq⟩ : ∃ q, fl.length = q + 1 := ⟨fl.length - 1, by omega⟩
        have hcl := hm5.cell q
        have hlast : fl[q]'(by omega) = fl.getLastD 0 := by
          rw [List.getLastD_eq_getLast?, List.getLast?_eq_getElem?, show fl.length - 1 = q by omega, List.getElem?_eq_getElem (by omega)]
          rfl
        rw [List.getElem?_append_left (by rw [nums_length]; omega), List.getElem?_eq_getElem (by rw [nums_length]; omega)] at hcl
        have e5 : (nums fl)[q]'(by rw [nums_length]; omega) = .int .i64 ((fl.getLastD 0 : Nat) : Int) := by
          rw [← hlast]; simp [nums]
        rw [e5] at hcl
        have hb0 := hm5.p1.cell 0
        have hb1 := hm5.p1.cell 1
        simp only [List.getElem?_cons_zero, List.getElem?_cons_succ] at hb0 hb1
        have HMK := hid hmk.out
        have HFL := hid hq
        have HM6 := hid HM2.out
        have hc5 : q + 1 ≤ c5 := by omega
        have hq0 : (q : Int) ≤ 1000 := by omega
        have hqq : (((q + 1 : Nat) : Int) == 0) = false := by rw [beq_eq_false_iff_ne]; omega
        have hwr : IntKind.i64.wrap ((q : Int) + 1 - 1) = (q : Int) := by rw [show (q : Int) + 1 - 1 = (q : Int) by omega]; exact IntWalk.i64_in _ (by omega)
        have hq1 : ((q : Int) + 1 == 0) = false := by rw [beq_eq_false_iff_ne]; omega
        rw [hq]
        generalize hle : fl.getLastD 0 = last at *
        clear hmk HM2 hm5 r1 r4 hlast e5 hle hq hfl hpos
        by_cases hlp : p ≤ last
        · have HI2 : Hid (ioOf (marked m p) D = (.error 90, D)) := by
            show _ = _
            rw [HMK.out, if_pos (.inr hlp)]
            rfl
          have hlp' : (p : Int) ≤ (last : Int) := by omega
          have hlq : decide ((p : Int) ≤ (last : Int)) = true := by simpa using hlp
          have HM4 := hid HM6.out.right.right
          clear HMK HM6
          go_wp2_with fail
          go_quiet (fail)
          go_wp2_with (go_at_call 39; refine (must_no _ 90 (by omega)).mono ?_; rintro e w' ⟨rfl, rfl⟩; dsimp only)
          exact ⟨rfl, IoSays.mkError HI2.out (by omega) (HM4.out.drewN _)⟩
        · have HI2 : Hid (ioOf (marked m p) D = (.ok fl, D)) := by
            show _ = _
            rw [HMK.out, if_neg (by intro h; rcases h with h | h; exact hnil h; exact hlp h)]
            rfl
          have hlp' : ¬ (p : Int) ≤ (last : Int) := by omega
          have hlq : decide ((p : Int) ≤ (last : Int)) = false := by simpa using hlp
          have HM4 := hid (HM6.out.p1.right : Mem wb _ (row 3 1 (some ⟨g5, 0, none⟩) fl.length c5 (nums fl) * (devAt T8 g D * R)))
          clear HMK HM6
          go_wp2_with fail
          go_quiet (fail)
          go_wp2_with fail
          go_ret
          refine IoSays.mkOk HI2.out ?_
          refine Mem.rowB.2 ⟨some ⟨g5, 0, none⟩, c5, ?_, HM4.out.drewN _⟩
          rw [HFL.out]
          rfl
/-- the pages of a marker -/
theorem marked_any (wb w : World) (R : HP) (g : Nat) (D : Dev) (a : Option Addr) (c : Nat) (m : List UInt8) (hml : m.length = 512) (h : Mem wb w (devAt T8 g D * R)) (hs : ∀ w', Mem wb w' R → Sl w' a 512 c (byts m)) (p : Nat) (hp : p ≤ 250) :
    Calls Try.prog 42 #[.agg #[.pointer (some ⟨g, 0, none⟩), .int .i64 (p : Int)], .slice a 512 c] w (IoSays wb g R (ioOf (marked m p) D) numsB) := by
  by_cases h0 : m.getD 511 0 = 0
  · exact marked_head wb w R g D a c m hml h hs p hp (.inl h0)
  · by_cases h1 : m.getD 511 0 ≠ 1 ∨ allZero ((m.drop 32).take 479) = false
    · exact marked_head wb w R g D a c m hml h hs p hp (.inr ⟨h0, h1⟩)
    · have hz : allZero ((m.drop 32).take 479) = true := by
        cases hq : allZero ((m.drop 32).take 479) with
        | true => rfl
        | false => exact absurd (.inr hq) h1
      have h2 : m.getD 511 0 = 1 := by
        by_cases hq : m.getD 511 0 = 1
        · exact hq
        · exact absurd (.inl hq) h1
      exact marked_rest wb w R g D a c m hml h hs p hp h2 hz
end Go.Proofs.Ytpaebopmppbjbaa
