/- The walks of Same on rows of strings, of the menu's works, and of the law MenuKeys. -/
import Derived.Test.YtdgbhbifeohfjaaMenuF
namespace Go.Proofs.Ytdgbhbifeohfjaa
open Go.RowKit

theorem strsV_at (l : List (List UInt8)) (j : Nat) (hj : j < l.length) : (strsV l)[j]? = some (.string ⟨(l.getD j []).toArray⟩) := by
  unfold strsV
  rw [List.getElem?_map, List.getD_eq_getElem?_getD, List.getElem?_eq_getElem hj]; rfl

set_option maxHeartbeats 400000 in
theorem same_true (b1 b2 : Nat) (v1 v2 : Value) (l : List (List UInt8)) (w : World) (h1 : w.ownsRow b1 9 1 v1 l.length (strsV l)) (h2 : w.ownsRow b2 9 1 v2 l.length (strsV l)) :
    Calls Try.prog 17 #[v1, v2] w fun e w' => e = .returned (.bool true) ∧ Below w.heap.size w w' := by
  obtain ⟨A, ca, rfl, hm, _, _, ha⟩ := own_form h1
  obtain ⟨B, cb, rfl, _, _, _, hb⟩ := own_form h2
  clear h1 h2
  have HA := Lib.hid ha
  have HB := Lib.hid hb
  clear ha hb
  unfold maxLen at hm
  have hne : ((l.length : Int) != (l.length : Int)) = false := by simp
  go_enter Try.func17, Try.ntmps17
  go_wp2
  go_loopw [5] (fun i wr => ∃ k : Nat, k ≤ l.length ∧ i = .int .i64 k ∧ ∃ n, wr = w.drewN n) (fun i _ => l.length - (intOf i).toNat)
  case atStart => exact ⟨0, by omega, rfl, 0, rfl⟩
  case round =>
    obtain ⟨k, hk, rfl, n, rfl⟩ := hrel
    by_cases hlt : k < l.length
    · obtain ⟨g1, rfl, _, _, c1⟩ := HA.out k hlt (by omega)
      obtain ⟨g2, rfl, _, _, c2⟩ := HB.out k hlt (by omega)
      have d1 := (c1 k (by omega)).trans (strsV_at l k hlt)
      have d2 := (c2 k (by omega)).trans (strsV_at l k hlt)
      clear c1 c2 HA HB
      have g0 : (0 : Int) ≤ (k : Int) := by omega
      have g3 : (k : Int) < (l.length : Int) := by omega
      go_wp2
      go_quiet (fail)
      go_wp2
      exact ⟨⟨k + 1, by omega, by go_num, _, rfl⟩, by simp [intOf]; omega⟩
    · go_wp2
      go_ret
      exact ⟨rfl, drawnN (Below.refl _ _) n⟩

theorem key_is (c : Nat) (a n l : Int) (w : World) (hc : c ≤ 255) (ha : kA c = a) (hn : kN c = n) (hl : kL c = l) : Calls Try.prog 11 #[.int .u8 c] w fun e w' => e = .returned (.tuple #[.int .i64 a, .int .i64 n, .int .i64 l]) ∧ Below w.heap.size w w' := by
  subst ha hn hl; exact key_any c w hc
theorem of_is (act : Int) (s : ByteArray) (w : World) (h : ofL act = s.data.toList) : Calls Try.prog 14 #[.int .i64 act] w fun e w' => e = .returned (.string s) ∧ Below w.heap.size w w' := by
  have := of_any act w
  rwa [h] at this
/-- Of the lines that are handed back their number alone. -/
theorem lines_len (level : Int) (n : Nat) (w : World) (h : (mAll (lc level)).length = n) : Calls Try.prog 16 #[.int .i64 level] w fun e w' => (∃ A cap, e = .returned (.slice A n cap)) ∧ Below w.heap.size w w' := by
  subst h
  refine (lines_any level w).mono ?_
  rintro e w' ⟨v, rfl, hown, hb⟩
  obtain ⟨A, cap, rfl, _⟩ := own_form hown
  exact ⟨⟨A, cap, rfl⟩, hb⟩

set_option maxRecDepth 100000 in
set_option maxHeartbeats 1000000 in
theorem works35 (w : World) : Calls Try.prog 15 #[] w fun e w' => e = .returned (.bool true) ∧ Below w.heap.size w w' := by
  go_enter Try.func15, Try.ntmps15
  go_wp2_with fail
  refine (key_is 55 12 7 2 _ (by omega) (by decide +kernel) (by decide +kernel) (by decide +kernel)).mono ?_; rintro e w1 ⟨rfl, hb1⟩
  go_wp2_with fail
  refine (key_is 46 1 0 1 _ (by omega) (by decide +kernel) (by decide +kernel) (by decide +kernel)).mono ?_; rintro e w2 ⟨rfl, hb2⟩
  go_wp2_with fail
  refine (key_is 120 0 0 0 _ (by omega) (by decide +kernel) (by decide +kernel) (by decide +kernel)).mono ?_; rintro e w3 ⟨rfl, hb3⟩
  go_wp2_with fail
  refine (lines_len 1 6 _ (by decide +kernel)).mono ?_; rintro e w4 ⟨⟨A4, c4, rfl⟩, hb4⟩
  go_wp2_with fail
  refine (lines_len 3 14 _ (by decide +kernel)).mono ?_; rintro e w5 ⟨⟨A5, c5, rfl⟩, hb5⟩
  go_wp2_with fail
  refine (lines_len 0 0 _ (by decide +kernel)).mono ?_; rintro e w6 ⟨⟨A6, c6, rfl⟩, hb6⟩
  go_wp2_with fail
  refine (of_is 12 _ _ (by decide +kernel : ofL 12 = (⟨#[48, 49, 50, 51, 52, 53, 54, 55, 56, 57]⟩ : ByteArray).data.toList)).mono ?_; rintro e w7 ⟨rfl, hb7⟩
  go_wp2_with fail
  refine (of_is 1 _ _ (by decide +kernel : ofL 1 = (⟨#[46]⟩ : ByteArray).data.toList)).mono ?_; rintro e w8 ⟨rfl, hb8⟩
  go_wp2_with fail
  refine (of_is 0 _ _ (by decide +kernel : ofL 0 = (⟨#[]⟩ : ByteArray).data.toList)).mono ?_; rintro e w9 ⟨rfl, hb9⟩
  go_wp2_with fail
  go_ret
  exact ⟨rfl, below_then hb1 (below_then hb2 (below_then hb3 (below_then hb4 (below_then hb5 (below_then hb6 (below_then hb7 (below_then hb8 hb9)))))))⟩

set_option maxRecDepth 100000 in
set_option maxHeartbeats 1000000 in
theorem keys_out (c : Nat) (act : Int) (w : World) (hc : c ≤ 255) (h : act ≤ 0 ∨ 15 ≤ act) : Calls Try.prog 3 #[.int .u8 c, .int .i64 act] w fun e w' => e = .returned (.bool true) ∧ Below w.heap.size w w' := by
  have ho : ofL act = (⟨#[]⟩ : ByteArray).data.toList := ofL_out (by omega)
  have HO := Lib.hid ho
  clear ho
  rcases h with h | h
  all_goals
    go_enter Try.func3, Try.ntmps3
    go_wp2_with fail
    refine (key_any c _ hc).mono ?_; rintro e w1 ⟨rfl, hb1⟩
    go_wp2_with fail
    refine (rkey_any c _ hc).mono ?_; rintro e w2 ⟨rfl, hb2⟩
    go_wp2_with fail
    refine (of_is act ⟨#[]⟩ _ HO.out).mono ?_; rintro e w3 ⟨rfl, hb3⟩
    go_wp2_with fail
    refine (works35 _).mono ?_; rintro e w4 ⟨rfl, hb4⟩
    go_wp2_with fail
    go_ret
    exact ⟨rfl, below_then hb1 (below_then hb2 (below_then hb3 hb4))⟩

set_option maxRecDepth 100000 in
set_option maxHeartbeats 1000000 in
theorem keys_in (c i : Nat) (w : World) (hc : c ≤ 255) (h1 : 1 ≤ i) (h2 : i < 15) : Calls Try.prog 3 #[.int .u8 c, .int .i64 i] w fun e w' => e = .returned (.bool true) ∧ Below w.heap.size w w' := by
  have HO := Lib.hid (ofL_in ⟨i, h2⟩ h1)
  have hcell := fun W => key_at W i h2
  go_enter Try.func3, Try.ntmps3
  go_wp2_with fail
  refine (key_any c _ hc).mono ?_; rintro e w1 ⟨rfl, hb1⟩
  go_wp2_with fail
  refine (rkey_any c _ hc).mono ?_; rintro e w2 ⟨rfl, hb2⟩
  go_wp2_with fail
  refine (keys_any _).mono ?_; rintro e w3 ⟨rfl, rfl⟩
  go_wp2_with fail
  refine (of_is i ⟨(rKey i).toArray⟩ _ (HO.out.trans (by simp))).mono ?_; rintro e w4 ⟨rfl, hb4⟩
  go_wp2_with fail
  refine (works35 _).mono ?_; rintro e w5 ⟨rfl, hb5⟩
  go_wp2_with fail
  go_ret
  exact ⟨rfl, below_then hb1 (below_then hb2 (((Below.refl _ _).alloc (Nat.le_refl _) _).trans ((below_then hb4 hb5).mono (by simp))))⟩

theorem keys_all (c act : Int) (w : World) (hc0 : 0 ≤ c) (hc : c ≤ 255) : Calls Try.prog 3 #[.int .u8 c, .int .i64 act] w fun e w' => e = .returned (.bool true) ∧ Below w.heap.size w w' := by
  obtain ⟨n, rfl⟩ := Int.eq_ofNat_of_zero_le hc0
  by_cases h : act ≤ 0 ∨ 15 ≤ act
  · exact keys_out n act w (by omega) h
  · obtain ⟨i, rfl⟩ := Int.eq_ofNat_of_zero_le (show 0 ≤ act by omega)
    exact keys_in n i w (by omega) (by omega) (by omega)

end Go.Proofs.Ytdgbhbifeohfjaa
