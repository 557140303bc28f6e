/- The walk of life's may. -/
import Derived.Test.YtpdppacafkdgdaaKeep1
set_option linter.unusedVariables false
set_option linter.unusedSimpArgs false
namespace Go.Le
open Go Go.RowKit
/-- what the law's list holds behind k writes -/
def allTake (i : Nat) (b : List UInt8) (l : List (Nat × List UInt8)) (k : Nat) : List (List UInt8) := allOf i b (l.take k)
theorem allTake_succ (i : Nat) (b : List UInt8) (l : List (Nat × List UInt8)) (k : Nat) (p : Nat × List UInt8) (h : l[k]? = some p) : allTake i b l (k + 1) = if p.1 = i then allTake i b l k ++ [p.2] else allTake i b l k := by
  obtain ⟨h1, h2⟩ := List.getElem?_eq_some_iff.1 h
  unfold allTake allOf
  rw [List.take_succ_eq_append_getElem h1, h2, List.filter_append]
  by_cases hp : p.1 = i
  · rw [if_pos hp, List.filter_cons_of_pos (by simpa using hp)]; simp
  · rw [if_neg hp, List.filter_cons_of_neg (by simpa using hp)]; simp
theorem allTake_length (i : Nat) (b : List UInt8) (l : List (Nat × List UInt8)) (k : Nat) : (allTake i b l k).length ≤ k + 1 := by
  unfold allTake allOf
  have := List.length_filter_le (fun p : Nat × List UInt8 => decide (p.1 = i)) (l.take k)
  rw [List.length_take] at this
  simp only [List.length_cons, List.length_map]
  omega
theorem strs_append (l r : List (List UInt8)) : strs (l ++ r) = strs l ++ strs r := by simp [strs]
theorem strs_one (l : List (List UInt8)) : ∀ v ∈ strs l, v.oneCell' = true := by
  intro v hv
  simp only [strs, List.mem_map] at hv
  obtain ⟨x, _, rfl⟩ := hv
  rfl
/-- may these bytes stand there? -/
def MayBe (all : List (List UInt8)) (b : List UInt8) (torn : Bool) : Prop := b ∈ all ∨ (torn = true ∧ ∀ j, j < 512 → ∃ x ∈ all, x[j]? = b[j]?)
end Go.Le
namespace Go.Proofs.Ytpdppacafkdgdaa
open Go Go.RowKit Go.Le

set_option maxRecDepth 20000 in
set_option maxHeartbeats 4000000 in
theorem may_any (wb w : World) (R : HP) (g : Nat) (V : Life) (h : Mem wb w (lifeH g V * R)) (hn : V.list.length ≤ 1000000) (i : Nat) (hi4 : i < 1000) (b0 : List UInt8) (hi : V.image[i]? = some b0) (a : Option Addr) (c : Nat) (b : List UInt8) (hs : ∀ w', Mem wb w' R → Sl w' a 512 c (byts b)) (torn : Bool)
    (hall : ∀ x ∈ allOf i b0 V.list, x.length = 512) (hmay : MayBe (allOf i b0 V.list) b torn) :
    Calls Try.prog 58 #[.pointer (some ⟨g, 0, none⟩), .int .i64 (i : Int), .slice a 512 c, .bool torn] w fun e w' => e = .returned (.bool true) ∧ Mem wb w' (lifeH g V * R) := by
  obtain ⟨gd, va, vc, la, lc, hL⟩ := Mem.lifeAt.1 h
  have hii := (List.getElem?_eq_some_iff.1 hi).1
  have c1 := hL.cell 1
  simp only [List.getElem?_cons_zero, List.getElem?_cons_succ] at c1
  obtain ⟨gv, rest, rfl, v1, v2, v3, v4, hv⟩ := hL.p1.row_at (by omega)
  have s1 := hv.cell i
  rw [List.getElem?_append_left (by rw [v1]; omega), strs_at hi] at s1
  have H := hid hL
  have HS := hid hs
  have HALL := hid hall
  have HMAY := hid hmay
  obtain ⟨pi, hpi, hzz, hsz, hby⟩ := info_parts strInfo
  have JI := hid hpi
  have JZ := hid hzz
  have JS := hid hsz
  have JB := hid hby
  have H1 := hid (hL.alloc [.string ⟨b0.toArray⟩] 9)
  have HR1 := hid (Mem.row_none.2 ⟨rfl, rfl, rfl, H1.out⟩ : Mem wb _ (row 9 1 none 0 0 [] * _))
  have hiI : (i : Int) < (V.image.length : Int) := by omega
  clear h hs hall hmay hv v1 v4 rest hpi hzz hsz hby hi
  generalize hml : V.image.length = m at *
  have HML := hid hml
  clear hml
  go_enter Try.func58, Try.ntmps58
  go_wp2_with ((with_reducible show wpList _ _ _ (Oper.mk (some 24) _ _ _ _ _ :: _) _ _); refine wpList_append (by rfl) (.tmp 15) (.tmp 23) 29 (by rfl) Try.underlying29 JI.out JZ.out JS.out JB.out (by rfl) (by omega) (by rfl) (by rfl) HR1.out rfl (by rfl) (news_built H1.out.blk.1) (by intro h; cases h) (by simp; rfl) (by omega) (by omega) ?_)
  intro a1 c1' w1 hm1 _
  have hm2 := hm1.duo_row.p1.right
  have HM1 := hid hm2
  clear hm1 hm2 HR1 H1 H s1 c1
  generalize hnl : V.list.length = n at *
  have HN := hid hnl
  clear hnl
  go_wp2_with fail
  go_loopw [9, 10] (fun s j wr => ∃ (k : Nat) (oa : Option Addr) (oc : Nat), k ≤ n ∧ j = .int .i64 k ∧ s = .slice oa (allTake i b0 V.list k).length oc ∧
    Mem wb wr (row 9 1 oa (allTake i b0 V.list k).length oc (strs (allTake i b0 V.list k)) * (pts g 32 [.pointer (some ⟨gd, 0, none⟩), .slice (some ⟨gv, 0, none⟩) m vc, .slice la n lc] *
      (row 9 1 (some ⟨gv, 0, none⟩) m vc (strs V.image) * (pends T8.u8 T8.pe la lc V.list * (devAt T8 gd V.d * R)))))) (fun _ j _ => n - (intOf j).toNat)
  case atStart => exact ⟨0, a1, c1', by omega, rfl, rfl, HM1.out⟩
  case round =>
    obtain ⟨k, oa, oc, hk, rfl, rfl, hm⟩ := hrel
    have hlen := allTake_length i b0 V.list k
    have c2 := hm.p1.cell 2
    simp only [List.getElem?_cons_zero, List.getElem?_cons_succ] at c2
    clear HM1
    by_cases hlt : k < n
    · obtain ⟨zs, hz, hp⟩ := Mem.pends.1 hm.p3
      have hzl : zs.length = n := by rw [← HN.out, ← hz]; simp
      obtain ⟨gp, rest2, rfl, r1, r2, r3, r4, hmp⟩ := hp.row_at (by rw [HN.out]; omega)
      rw [HN.out] at r1 r2
      obtain ⟨z, hzk⟩ : ∃ z, zs[k]? = some z := ⟨zs[k]'(by rw [hzl]; exact hlt), List.getElem?_eq_getElem _⟩
      have hpk := pz_cells zs k z hzk
      have hp0 := hmp.cell (k * 2)
      have hp1 := hmp.cell (k * 2 + 1)
      rw [List.getElem?_append_left (by rw [r1]; omega)] at hp0 hp1
      rw [hpk.1] at hp0
      rw [hpk.2] at hp1
      have hpz : V.list[k]? = some z.1 := by rw [← hz, List.getElem?_map, hzk]; rfl
      have HNX := hid (allTake_succ i b0 V.list k z.1 hpz)
      obtain ⟨Az, hmz⟩ := Mem.pz hp.right hzk
      obtain ⟨⟨si, bs⟩, ba, bc⟩ := z
      have hst := conv_str hmz.row_sl
      simp only at hp0 hp1 HNX hst
      have HM := hid hm
      have hrl := hm.row_len
      clear hpk hzk hpz hmp hmz r1 r4 hp hz hzl hm
      by_cases hsi : si = i
      · have hb : ((si : Int) == (i : Int)) = true := by simp; omega
        rw [if_pos hsi] at HNX
        clear hsi
        have hq := hid (HM.out.alloc [.string ⟨bs.toArray⟩] 9)
        generalize hL9 : (allTake i b0 V.list k).length = L at *
        have HL9 := hid hL9
        clear hL9
        go_wp2_with ((with_reducible show wpList _ _ _ (Oper.mk (some 55) _ _ _ _ _ :: _) _ _); refine wpList_append (by rfl) (.tmp 44) (.tmp 54) 29 (by rfl) Try.underlying29 JI.out JZ.out JS.out JB.out (by rfl) (by omega) (by rfl) (by rfl) hq.out.p1 rfl (by rfl) (news_built hq.out.blk.1) (by intro h; cases h) (by simp; rfl) (by omega) (by omega) ?_)
        intro a2 c2' w2 hm2 _ _
        have HM2 := hid hm2.duo_row.p1.right
        clear hm2
        go_wp2_with fail
        go_roundw
        case rel => exact ⟨k + 1, a2, c2', by omega, by go_num, by rw [HNX.out, List.length_append, HL9.out]; rfl, by rw [HNX.out, List.length_append, HL9.out, strs_append]; exact HM2.out⟩
        case measure => simp [intOf] <;> omega
      · have hb : ((si : Int) == (i : Int)) = false := by simp; omega
        rw [if_neg hsi] at HNX
        clear hsi
        go_wp2_with fail
        go_roundw
        case rel => exact ⟨k + 1, oa, oc, by omega, by go_num, by rw [HNX.out], by rw [HNX.out]; exact HM.out⟩
        case measure => simp [intOf] <;> omega
    · obtain rfl : k = n := by omega
      have hall : allTake i b0 V.list k = allOf i b0 V.list := by unfold allTake; rw [List.take_of_length_le (by rw [HN.out]; exact Nat.le_refl _)]
      rw [hall] at hm hlen ⊢
      have HX := hid hm
      have hrow := hm.row_sl
      have hap := hid (HS.out wr hm.right.right.right.right.right)
      clear hall hm
      generalize hL9 : (allOf i b0 V.list).length = L at *
      have HL9 := hid hL9
      have hL1 : Hid (1 ≤ L) := by show 1 ≤ L; rw [← hL9]; simp [allOf]
      clear hL9
      obtain ⟨go_, rest9, rfl, -, o2, o3, -⟩ := HX.out.row_at (by have := hL1.out; omega)
      have hcell : Hid (∀ j, j < L → ∃ x, (allOf i b0 V.list)[j]? = some x ∧ wr.cell? ⟨go_, j, none⟩ = some (.string ⟨x.toArray⟩)) := by
        intro j hj
        have hx : (allOf i b0 V.list)[j]? = some ((allOf i b0 V.list)[j]'(by rw [HL9.out]; exact hj)) := List.getElem?_eq_getElem _
        refine ⟨_, hx, ?_⟩
        have h1 := hrow.cell j hj _ rfl
        rw [Nat.zero_add] at h1
        rw [h1]
        exact strs_at hx
      clear hrow
      have HFIN : Hid (Mem wb wr (lifeH g V * R)) := Mem.lifeAt.2 ⟨gd, some ⟨gv, 0, none⟩, vc, la, lc, by rw [HML.out, HN.out]; exact HX.out.right⟩
      go_wp2_with fail

      go_loopw [11] (fun s wx => ∃ (j n : Nat), j ≤ L ∧ s = .int .i64 j ∧ (∀ q, q < j → (allOf i b0 V.list)[q]? ≠ some b) ∧ wx = wr.drewN n) (fun s _ => L - (intOf s).toNat)
      case atStart => exact ⟨0, 0, by omega, rfl, (fun q hq => by omega), rfl⟩
      case round =>
        obtain ⟨j, n0, hj, rfl, hno, rfl⟩ := hrel
        have HNO := hid hno
        clear hno
        by_cases hjl : j < L
        · obtain ⟨x, hx, hcx⟩ := hcell.out j hjl
          have hst := fun n => conv_str (hap.out.drewN n)
          have HXX := hid hx
          clear hx
          by_cases hxb : x = b
          · have hxt : (x == b) = true := by simpa using hxb
            clear hxb
            go_wp2_with fail
            go_quiet (fail)
            have hq := hid ((HFIN.out.drewN n0).drewN nq)
            go_wp2_with fail
            go_ret
            exact ⟨rfl, hq.out⟩
          · have HXB := hid hxb
            have hxf : (x == b) = false := by simpa using hxb
            clear hxb
            go_wp2_with fail
            go_quiet (fail)
            go_wp2_with fail
            go_roundw
            case rel => exact ⟨j + 1, _, by omega, by go_num, (fun q hq => by
              by_cases h1 : q = j
              · subst h1; rw [HXX.out]; intro h2; exact HXB.out (by simpa using h2)
              · exact HNO.out q (by omega)), rfl⟩
            case measure => simp [intOf] <;> omega
        · obtain rfl : j = L := by omega
          have hnb : ¬ b ∈ allOf i b0 V.list := by
            intro hb
            obtain ⟨q, hq, hqb⟩ := List.getElem_of_mem hb
            exact HNO.out q (by rw [HL9.out] at hq; exact hq) (by rw [List.getElem?_eq_getElem hq, hqb])
          obtain ⟨htn, hby⟩ : torn = true ∧ ∀ j, j < 512 → ∃ x ∈ allOf i b0 V.list, x[j]? = b[j]? := by
            rcases HMAY.out with h | h
            · exact absurd h hnb
            · exact h
          have HBY := hid hby
          clear hnb hby
          subst htn
          go_wp2_with fail
          go_loopw [12] (fun s wx => ∃ (q n : Nat), q ≤ 512 ∧ s = .int .i64 q ∧ wx = wr.drewN n) (fun s _ => 512 - (intOf s).toNat)
          case atStart => exact ⟨0, _, by omega, rfl, rfl⟩
          case round =>
            obtain ⟨q, n1, hq, rfl, rfl⟩ := hrel
            by_cases hq5 : q < 512
            · have hq5d : decide ((q : Int) < 512) = true := by simp; omega
              obtain ⟨x0, hx0, hx0q⟩ := HBY.out q hq5
              have hbl : b.length = 512 := by have := hap.out.len; rwa [byts_length] at this
              have hbq : b[q]? = some (b[q]'(by omega)) := List.getElem?_eq_getElem _
              obtain ⟨y, hy⟩ : ∃ y, y = b[q]'(by omega) := ⟨_, rfl⟩
              rw [← hy] at hbq
              have hy8 := y.toNat_lt
              obtain ⟨ba, oa9, rfl⟩ := hap.out.addr (by omega)
              have hcy := hap.out.at q hq5
              simp only [byts, List.getElem_map, byt] at hcy
              rw [← hy] at hcy
              have hac := hap.out.le
              have hac2 := hap.out.cap
              have HX0 := hid hx0
              have HX0Q := hid (hx0q.trans hbq)
              clear hy hbq hx0 hx0q hbl
              go_wp2_with fail
              go_loopw [13, 14] (fun o s wx => ∃ (p n : Nat) (one : Bool), p ≤ j ∧ s = .int .i64 p ∧ o = .bool one ∧ (one = false → ∀ r, r < p → ∀ x, (allOf i b0 V.list)[r]? = some x → x[q]? ≠ some y) ∧ wx = wr.drewN n) (fun _ s _ => j - (intOf s).toNat)
              case atStart => exact ⟨0, _, false, by omega, rfl, rfl, (fun _ r hr => by omega), rfl⟩
              case round =>
                obtain ⟨p, n2, one, hp, rfl, rfl, hone, rfl⟩ := hrel
                have HO := hid hone
                clear hone hq5d
                have hq5i : (q : Int) < 512 := by omega
                by_cases hpj : p < j
                · obtain ⟨x, hx, hcx⟩ := hcell.out p hpj
                  have hxl : x.length = 512 := HALL.out x (List.mem_of_getElem? hx)
                  have HXX := hid hx
                  cases one
                  · have hxq : x[q]? = some (x[q]'(by omega)) := List.getElem?_eq_getElem _
                    by_cases hxy : x[q]'(by omega) = y
                    · have hb9 : ∀ h : q < (⟨x.toArray⟩ : ByteArray).size, ((((⟨x.toArray⟩ : ByteArray)[q]'h).toNat : Int) == (y.toNat : Int)) = true := by
                        intro h
                        have e : (⟨x.toArray⟩ : ByteArray)[q]'h = x[q]'(by omega) := rfl
                        rw [e, hxy]; simp
                      clear hxq hxy hx
                      go_wp2_with fail
                      go_quiet (fail)
                      go_wp2_with fail
                      go_roundw
                      case rel => exact ⟨p + 1, _, true, by omega, by go_num, rfl, (fun h => by cases h), rfl⟩
                      case measure => simp [intOf] <;> omega
                    · have hb9 : ∀ h : q < (⟨x.toArray⟩ : ByteArray).size, ((((⟨x.toArray⟩ : ByteArray)[q]'h).toNat : Int) == (y.toNat : Int)) = false := by
                        intro h
                        have e : (⟨x.toArray⟩ : ByteArray)[q]'h = x[q]'(by omega) := rfl
                        rw [e]
                        simp only [beq_eq_false_iff_ne, ne_eq]
                        intro hh
                        exact hxy (UInt8.toNat_inj.1 (by omega))
                      have HXY : Hid (x[q]? ≠ some y) := by
                        show _ ≠ _
                        rw [hxq]; intro hh; exact hxy (by simpa using hh)
                      clear hxq hxy hx
                      go_wp2_with fail
                      go_quiet (fail)
                      go_wp2_with fail
                      go_roundw
                      case rel => exact ⟨p + 1, _, false, by omega, by go_num, rfl, (fun _ r hr x' hx' => by
                        by_cases h1 : r = p
                        · subst h1
                          rw [HXX.out] at hx'
                          obtain rfl := Option.some.inj hx'
                          exact HXY.out
                        · exact HO.out trivial r (by omega) x' hx'), rfl⟩
                      case measure => simp [intOf] <;> omega
                  · go_wp2_with fail
                    go_quiet (fail)
                    go_wp2_with fail
                    go_roundw
                    case rel => exact ⟨p + 1, _, true, by omega, by go_num, rfl, (fun h => by cases h), rfl⟩
                    case measure => simp [intOf] <;> omega
                · obtain rfl : p = j := by omega
                  have hot : one = true := by
                    cases one
                    · exfalso
                      obtain ⟨r, hr, hrx⟩ := List.getElem_of_mem HX0.out
                      exact HO.out rfl r (by rw [HL9.out] at hr; exact hr) x0 (by rw [List.getElem?_eq_getElem hr, hrx]) HX0Q.out
                    · rfl
                  go_wp2_with fail
                  go_roundw
                  case rel => exact ⟨q + 1, _, by omega, by go_num, rfl⟩
                  case measure => simp [intOf] <;> omega
            · obtain rfl : q = 512 := by omega
              have hq9 := hid (HFIN.out.drewN n1)
              go_wp2_with fail
              go_ret
              exact ⟨rfl, hq9.out⟩
end Go.Proofs.Ytpdppacafkdgdaa
