/- Walks of 'works' and of the laws of the sums. -/
import Derived.Test.YtgoeabkoljabkaaSumC
namespace Go.Proofs.Ytgoeabkoljabkaa
open Go.RowKit

theorem of_is (s : ByteArray) (v : Int) (w : World) (hs : s.size ≤ maxLen) (h : sAll 0 s.data.toList = v) :
    Calls Try.prog 12 #[.string s] w fun e w' => e = .returned (.int .i64 v) ∧ w = w' := by subst h; exact of_any s w hs
theorem join_is (a b : Int) (n : Nat) (v : Int) (w : World) (ha : InP a) (hb : InP b) (hn : n ≤ 9223372036854775807) (h : joinN a b n = v) :
    Calls Try.prog 11 #[.int .i64 a, .int .i64 b, .int .i64 n] w fun e w' => e = .returned (.tuple #[.int .i64 v, .int .i64 0]) ∧ w = w' := by subst h; exact join_yes a b n w ha hb hn
theorem read_is (s : ByteArray) (v c : Int) (w : World) (hs : s.size = 4) (h : readV (num4 s.data.toList) = v) (k : readE (num4 s.data.toList) = c) :
    Calls Try.prog 14 #[.string s] w fun e w' => e = .returned (.tuple #[.int .i64 v, .int .i64 c]) ∧ w = w' := by subst h; subst k; exact read_any s w hs
theorem fits_is (s : ByteArray) (v : Bool) (w : World) (hs : s.size ≤ maxLen) (h4 : 4 ≤ s.size) (h : fitsB s.data.toList = v) :
    Calls Try.prog 19 #[.string s] w fun e w' => e = .returned (.bool v) ∧ Below w.heap.size w w' := by subst h; exact fits_long s w hs h4

set_option maxHeartbeats 400000 in
theorem works7 (w : World) : Calls Try.prog 10 #[] w fun e w' => e = .returned (.bool true) ∧ Below w.heap.size w w' := by
  go_enter Try.func10, Try.ntmps10
  go_wp2_with fail
  refine (of_is _ 25285 _ (by decide) (by decide)).mono ?_; rintro e w' ⟨rfl, rfl⟩
  go_wp2_with fail
  refine (of_is _ 100 _ (by decide) (by decide)).mono ?_; rintro e w' ⟨rfl, rfl⟩
  go_wp2_with fail
  refine (join_is _ _ 1 6498345 _ (by unfold InP; omega) (by unfold InP; omega) (by omega) (by decide)).mono ?_; rintro e w' ⟨rfl, rfl⟩
  go_wp2_with fail
  refine (join_no _ _ _ _ (by unfold InP; omega)).mono ?_; rintro e w' ⟨rfl, rfl⟩
  go_wp2_with fail
  refine (read_is _ 0 2 _ (by decide) (by decide) (by decide)).mono ?_; rintro e w' ⟨rfl, rfl⟩
  go_wp2_with fail
  refine (read_size _ _ (by decide)).mono ?_; rintro e w' ⟨rfl, rfl⟩
  go_wp2_with fail
  refine (read_is _ 98 0 _ (by decide) (by decide) (by decide)).mono ?_; rintro e w' ⟨rfl, rfl⟩
  go_wp2_with fail
  refine (of_is _ 0 _ (by decide) (by decide)).mono ?_; rintro e w' ⟨rfl, rfl⟩
  go_wp2_with fail
  refine (of_is _ 98 _ (by decide) (by decide)).mono ?_; rintro e w' ⟨rfl, rfl⟩
  go_wp2_with fail
  refine (of_is _ 6498345 _ (by decide) (by decide)).mono ?_; rintro e w' ⟨rfl, rfl⟩
  go_wp2_with fail
  refine (fits_is _ true _ (by decide) (by decide) (by decide)).mono ?_; rintro e w1 ⟨rfl, hb1⟩
  go_wp2_with fail
  refine (fits_is _ false _ (by decide) (by decide) (by decide)).mono ?_; rintro e w2 ⟨rfl, hb2⟩
  go_wp2_with fail
  go_ret
  exact ⟨rfl, hb1.trans (hb2.mono hb1.size)⟩

/-! ### SumJoins -/
theorem of_app (s t : ByteArray) (w : World) (hs : (s ++ t).size ≤ maxLen) :
    Calls Try.prog 12 #[.string (s ++ t)] w fun e w' => e = .returned (.int .i64 (sAll 0 (s.data.toList ++ t.data.toList))) ∧ w = w' :=
  of_is _ _ w hs (by rw [ByteArray.data_append, Array.toList_append])
theorem join_app (s t : ByteArray) (w : World) (ht : t.size ≤ 9223372036854775807) :
    Calls Try.prog 11 #[.int .i64 (sAll 0 s.data.toList), .int .i64 (sAll 0 t.data.toList), .int .i64 t.size] w fun e w' => e = .returned (.tuple #[.int .i64 (sAll 0 (s.data.toList ++ t.data.toList)), .int .i64 0]) ∧ w = w' :=
  join_is _ _ t.size _ w (sAll_0 _) (sAll_0 _) ht (by rw [joined]; rfl)

set_option maxHeartbeats 400000 in
theorem joins_big (s t : ByteArray) (a b n : Int) (w : World) (h : 1000 < s.size ∨ 1000 < t.size) :
    Calls Try.prog 3 #[.string s, .string t, .int .i64 a, .int .i64 b, .int .u16 n] w fun e w' => e = .returned (.bool true) ∧ Below w.heap.size w w' := by
  by_cases h1 : 1000 < s.size
  · clear h
    go_enter Try.func3, Try.ntmps3
    go_wp2_with (go_at_call 10; refine (works7 _).mono ?_; rintro e w1 ⟨rfl, hb⟩)
    go_ret
    exact ⟨rfl, hb⟩
  · have h2 : 1000 < t.size := by omega
    clear h
    go_enter Try.func3, Try.ntmps3
    go_wp2_with (go_at_call 10; refine (works7 _).mono ?_; rintro e w1 ⟨rfl, hb⟩)
    go_ret
    exact ⟨rfl, hb⟩

set_option maxHeartbeats 400000 in
theorem joins_yes (s t : ByteArray) (a b : Int) (n : Nat) (w : World) (h1 : s.size ≤ 1000) (h2 : t.size ≤ 1000) (hn : n ≤ 65535) (ha : InP a) (hb : InP b) :
    Calls Try.prog 3 #[.string s, .string t, .int .i64 a, .int .i64 b, .int .u16 n] w fun e w' => e = .returned (.bool true) ∧ Below w.heap.size w w' := by
  have hs : s.size ≤ maxLen := by unfold maxLen; omega
  have ht : t.size ≤ maxLen := by unfold maxLen; omega
  have hst : (s ++ t).size ≤ maxLen := by rw [ByteArray.size_append]; unfold maxLen; omega
  go_enter Try.func3, Try.ntmps3
  go_wp2_with fail
  refine (of_any _ _ hs).mono ?_; rintro e w' ⟨rfl, rfl⟩
  go_wp2_with fail
  refine (of_any _ _ ht).mono ?_; rintro e w' ⟨rfl, rfl⟩
  go_wp2_with fail
  refine (join_app _ _ _ (by omega)).mono ?_; rintro e w' ⟨rfl, rfl⟩
  go_wp2_with fail
  refine (join_yes a b n _ ha hb (by omega)).mono ?_; rintro e w' ⟨rfl, rfl⟩
  go_wp2_with fail
  refine (rjoin_yes a b n _ ha hb (by omega)).mono ?_; rintro e w' ⟨rfl, rfl⟩
  go_wp2_with fail
  refine (join_no _ _ _ _ (by unfold InP; omega)).mono ?_; rintro e w' ⟨rfl, rfl⟩
  go_wp2_with fail
  refine (of_app _ _ _ hst).mono ?_; rintro e w' ⟨rfl, rfl⟩
  go_wp2_with fail
  refine (works7 _).mono ?_; rintro e w1 ⟨rfl, hbl⟩
  go_wp2_with fail
  go_ret
  exact ⟨rfl, hbl⟩

set_option maxHeartbeats 400000 in
theorem joins_no (s t : ByteArray) (a b : Int) (n : Nat) (w : World) (h1 : s.size ≤ 1000) (h2 : t.size ≤ 1000) (hn : n ≤ 65535) (hab : ¬ (InP a ∧ InP b ∧ 0 ≤ (n : Int))) :
    Calls Try.prog 3 #[.string s, .string t, .int .i64 a, .int .i64 b, .int .u16 n] w fun e w' => e = .returned (.bool true) ∧ Below w.heap.size w w' := by
  have hs : s.size ≤ maxLen := by unfold maxLen; omega
  have ht : t.size ≤ maxLen := by unfold maxLen; omega
  have hst : (s ++ t).size ≤ maxLen := by rw [ByteArray.size_append]; unfold maxLen; omega
  have HAB := Lib.hid hab
  clear hab
  go_enter Try.func3, Try.ntmps3
  go_wp2_with fail
  refine (of_any _ _ hs).mono ?_; rintro e w' ⟨rfl, rfl⟩
  go_wp2_with fail
  refine (of_any _ _ ht).mono ?_; rintro e w' ⟨rfl, rfl⟩
  go_wp2_with fail
  refine (join_app _ _ _ (by omega)).mono ?_; rintro e w' ⟨rfl, rfl⟩
  go_wp2_with fail
  refine (join_no a b n _ HAB.out).mono ?_; rintro e w' ⟨rfl, rfl⟩
  go_wp2_with fail
  refine (rjoin_no a b n _ HAB.out).mono ?_; rintro e w' ⟨rfl, rfl⟩
  go_wp2_with fail
  refine (join_no _ _ _ _ (by unfold InP; omega)).mono ?_; rintro e w' ⟨rfl, rfl⟩
  go_wp2_with fail
  refine (of_app _ _ _ hst).mono ?_; rintro e w' ⟨rfl, rfl⟩
  go_wp2_with fail
  refine (works7 _).mono ?_; rintro e w1 ⟨rfl, hbl⟩
  go_wp2_with fail
  go_ret
  exact ⟨rfl, hbl⟩

theorem joins_all (s t : ByteArray) (a b : Int) (n : Int) (w : World) (h0 : 0 ≤ n) (hn : n ≤ 65535) :
    Calls Try.prog 3 #[.string s, .string t, .int .i64 a, .int .i64 b, .int .u16 n] w fun e w' => e = .returned (.bool true) ∧ Below w.heap.size w w' := by
  obtain ⟨m, rfl⟩ := Int.eq_ofNat_of_zero_le h0
  by_cases h : 1000 < s.size ∨ 1000 < t.size
  · exact joins_big s t a b m w h
  · by_cases hab : InP a ∧ InP b ∧ 0 ≤ (m : Int)
    · exact joins_yes s t a b m w (by omega) (by omega) (by omega) hab.1 hab.2.1
    · exact joins_no s t a b m w (by omega) (by omega) (by omega) hab

end Go.Proofs.Ytgoeabkoljabkaa
