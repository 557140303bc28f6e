/- The reference's small functions (letheref08): New, Load, copied. -/
import Derived.Test.YtpdppacafkdgdaaLw2
namespace Go.Proofs.Ytpdppacafkdgdaa
open Go Go.RowKit Go.Le
def T9 : Ty := ⟨5, 76, 39, 95⟩

theorem RNew_no (w : World) (n : Int) (hn : n < 1 ∨ 4096 < n) (hn1 : -9223372036854775808 ≤ n) (hn2 : n ≤ 9223372036854775807) :
    Calls Try.prog 38 #[.int .i64 n] w fun e w' => e = .returned (.tuple #[.pointer none, .int .i64 4]) ∧ w = w' := by
  by_cases h1 : n < 1
  · go_enter Try.func38, Try.ntmps38
    go_wp2
    go_ret2
    exact ⟨rfl, rfl⟩
  · have h2 : 4096 < n := by omega
    go_enter Try.func38, Try.ntmps38
    go_wp2
    go_ret2
    exact ⟨rfl, rfl⟩
theorem RNew_any0 (wb w : World) (R : HP) (h : Mem wb w R) (n : Nat) (h1 : 1 ≤ n) (h2 : n ≤ 4096) :
    Calls Try.prog 38 #[.int .i64 (n : Int)] w fun e w' => ∃ g, e = .returned (.tuple #[.pointer (some ⟨g, 0, none⟩), .int .i64 0]) ∧ Mem wb w' (devAt T9 g (Dev.fresh (List.replicate (n * 512) 0)) * R) := by
  have hmk := run_make_bytes (P := Try.prog) 34 5 Try.underlying34 u8info .i64 .i64 ((n : Int) * 512) (by omega) (by omega)
  have e5 : ((n : Int) * 512).toNat = n * 512 := by omega
  rw [e5] at hmk
  have H := hid h
  clear h e5
  go_enter Try.func38, Try.ntmps38
  go_wp2
  go_ret2
  refine ⟨w.heap.size + 1, rfl, ?_⟩
  have hd := (H.out.alloc (List.replicate (n * 512) (.int .u8 0)) 5).alloc (devCells (Dev.fresh (List.replicate (n * 512) 0)) (some ⟨w.heap.size, 0, none⟩) (n * 512) none 0 none 0 0) 95
  have e6 : (w.alloc (.cells (List.replicate (n * 512) (Value.int .u8 0)).toArray 5)).heap.size = w.heap.size + 1 := by simp
  rw [e6] at hd
  refine Mem.devNew (ia := some ⟨w.heap.size, 0, none⟩) (ic := n * 512) (fresh_ok _ n (by simp) h1 h2) ?_
  refine (Mem.of_row rfl (rest := []) (by rw [byts_length]; omega) (by simp) (by omega) (by simp [byts_length]) ?_).p1
  rw [List.append_nil, ← byts_zeros]
  simpa [devCells, Dev.fresh, T9] using hd.p1
theorem RNew_any (wb w : World) (R : HP) (h : Mem wb w R) (n : Nat) (h1 : 1 ≤ n) (h2 : n ≤ 4096) :
    Calls Try.prog 38 #[.int .i64 (n : Int)] w fun e w' => ∃ g, e = .returned (.tuple #[.pointer (some ⟨g, 0, none⟩), .int .i64 0]) ∧ Mem wb w' (devAt T9 g (Dev.fresh (zrs (n * 512))) * R) :=
  RNew_any0 wb w R h n h1 h2

theorem copied_any (wb w : World) (R : HP) (h : Mem wb w R) (a : Option Addr) (n c : Nat) (l : List UInt8) (hs : Sl w a n c (byts l)) (hn : n ≤ 4294967296) :
    Calls Try.prog 57 #[.slice a n c] w fun e w' => ∃ a' c', e = .returned (.slice a' n c') ∧ Mem wb w' (row 5 1 a' n c' (byts l) * R) := by
  obtain ⟨pi, hi, hzz, hsz, hby⟩ := info_parts u8info
  have JI := hid hi
  have JZ := hid hzz
  have JS := hid hsz
  have JB := hid hby
  have HR := hid (Mem.row_none.2 ⟨rfl, rfl, rfl, h⟩ : Mem wb w (row 5 1 none 0 0 [] * R))
  have S := hid hs
  clear hi hzz hsz hby h hs
  go_enter Try.func57, Try.ntmps57
  go_wp2_with ((with_reducible show wpList _ _ _ (Oper.mk (some 6) _ _ _ _ _ :: _) _ _); refine wpList_append (by rfl) (.tmp 4) (.tmp 5) 34 (by rfl) Try.underlying34 JI.out JZ.out JS.out JB.out (by rfl) (by omega) (by rfl) (by rfl) HR.out rfl (by rw [S.out.len, Nat.mul_one]) (news_sl S.out) (news_nil S.out) (byts_oneCell _) (by omega) (by omega) ?_)
  intro a' c' w' hm2 _
  go_wp2
  go_ret
  exact ⟨a', c', rfl, hm2.duo_row⟩

/-- the laws' made without an image -/
theorem made_new (wb w : World) (R : HP) (h : Mem wb w R) (n : Nat) (h1 : 1 ≤ n) (h2 : n ≤ 4096) :
    Calls Try.prog 17 #[.int .i64 (n : Int), .slice none 0 0] w fun e w' => ∃ g g', e = .returned (.tuple #[.pointer (some ⟨g, 0, none⟩), .pointer (some ⟨g', 0, none⟩), .bool true]) ∧
      Mem wb w' (devAt T8 g (Dev.fresh (zrs (n * 512))) * (devAt T9 g' (Dev.fresh (zrs (n * 512))) * R)) := by
  have H := hid h
  clear h
  go_enter Try.func17, Try.ntmps17
  go_wp2_with fail
  refine (New_any wb w R H.out n h1 h2).mono ?_
  rintro e w1 ⟨g, rfl, hm1⟩
  dsimp only
  have H1 := hid hm1
  clear hm1
  go_wp2_with fail
  refine (RNew_any wb w1 _ H1.out n h1 h2).mono ?_
  rintro e w2 ⟨g', rfl, hm2⟩
  dsimp only
  have H2 := hid hm2
  clear hm2
  go_wp2_with fail
  go_ret3
  exact ⟨g, g', rfl, H2.out.p1⟩
theorem made_no (w : World) (n : Int) (hn : n < 1 ∨ 4096 < n) (hn1 : -9223372036854775808 ≤ n) (hn2 : n ≤ 9223372036854775807) :
    Calls Try.prog 17 #[.int .i64 n, .slice none 0 0] w fun e w' => e = .returned (.tuple #[.pointer none, .pointer none, .bool true]) ∧ w = w' := by
  have H1 := hid (New_no w n hn hn1 hn2)
  have H2 := hid (RNew_no w n hn hn1 hn2)
  clear hn
  go_enter Try.func17, Try.ntmps17
  go_wp2_with (first | (go_at_call 21; refine H1.out.mono ?_; rintro e w' ⟨rfl, rfl⟩; dsimp only) | (go_at_call 38; refine H2.out.mono ?_; rintro e w' ⟨rfl, rfl⟩; dsimp only))
  go_ret3
  exact ⟨rfl, rfl⟩
end Go.Proofs.Ytpdppacafkdgdaa
