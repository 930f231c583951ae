/- Walks of sum's functions. -/
import Derived.Test.YtgoeabkoljabkaaRows
import Derived.Test.YtgoeabkoljabkaaSumP
import Derived.WalkKit
import Derived.WalkSpells
import Derived.WalkLawsBesides
import Derived.Lib.Hide
import Derived.BigQuiet
import Derived.Deep.QuietTactic
namespace Go.Proofs.Ytgoeabkoljabkaa
open Go.RowKit

theorem ret_int {k : IntKind} {a b : Int} (h : a = b) : Ending.returned (.int k a) = .returned (.int k b) := by rw [h]
theorem take_snoc (s : ByteArray) (k : Nat) (h : k < s.size) : s.data.toList.take (k + 1) = s.data.toList.take k ++ [s[k]] := by
  rw [List.take_succ_eq_append_getElem (by simpa using h)]; rfl
theorem take_size (s : ByteArray) : s.data.toList.take s.size = s.data.toList := List.take_of_length_le (by simp)

set_option maxHeartbeats 400000 in
theorem on_any (h : Int) (c : Int) (w : World) (h0 : 0 ≤ h) (h1 : h < 2147483647) (c0 : 0 ≤ c) (c1 : c ≤ 255) :
    Calls Try.prog 42 #[.int .i64 h, .int .u8 c] w fun e w' => e = .returned (.int .i64 (sOn h c)) ∧ w = w' := by
  go_enter Try.func42, Try.ntmps42
  go_wp2
  go_ret
  exact ⟨rfl, rfl⟩

set_option maxHeartbeats 400000 in
theorem all_s (h : Int) (s : ByteArray) (w : World) (hs : s.size ≤ maxLen) (h0 : 0 ≤ h) (h1 : h < 2147483647) :
    Calls Try.prog 35 #[.int .i64 h, .string s] w fun e w' => e = .returned (.int .i64 (sAll h s.data.toList)) ∧ w = w' := by
  unfold maxLen at hs
  go_enter Try.func35, Try.ntmps35
  go_wp2
  go_loop [0, 8] (fun n i => ∃ k : Nat, k ≤ s.size ∧ i = .int .i64 k ∧ n = .int .i64 (sAll h (s.data.toList.take k))) (fun _ i => s.size - (intOf i).toNat)
  case atStart => exact ⟨0, Nat.zero_le _, rfl, rfl⟩
  case round =>
    obtain ⟨k, hk, rfl, rfl⟩ := hrel
    have hi : InP (sAll h (s.data.toList.take k)) := sAll_in ⟨h0, h1⟩ _
    obtain ⟨hi0, hi1⟩ := hi
    by_cases hlt : k < s.size
    · have hu := u8_le s[k]
      obtain ⟨hu0, hu1⟩ := hu
      have HS : Hid (sAll h (s.data.toList.take (k + 1)) = sOn (sAll h (s.data.toList.take k)) s[k].toNat) := by rw [take_snoc s k hlt, sAll_snoc]; exact rfl
      go_wp2_with (go_at_call 42; refine (on_any _ _ _ (by assumption) (by assumption) (by assumption) (by assumption)).mono ?_; rintro e w' ⟨rfl, rfl⟩)
      go_round
      case rel => exact ⟨k + 1, by omega, by go_num, by rw [HS.out]⟩
      case measure => simp [intOf]; omega
    · go_wp2
      go_ret
      exact ⟨ret_int (by rw [List.take_of_length_le (by simp; omega)]), rfl⟩

set_option maxHeartbeats 400000 in
theorem of_any (s : ByteArray) (w : World) (hs : s.size ≤ maxLen) :
    Calls Try.prog 12 #[.string s] w fun e w' => e = .returned (.int .i64 (sAll 0 s.data.toList)) ∧ w = w' := by
  go_enter Try.func12, Try.ntmps12
  go_wp2_with (go_at_call 35; refine (all_s _ _ _ (by assumption) (by omega) (by omega)).mono ?_; rintro e w' ⟨rfl, rfl⟩)
  go_ret
  exact ⟨rfl, rfl⟩

set_option maxHeartbeats 400000 in
theorem rof_any (s : ByteArray) (w : World) (hs : s.size ≤ maxLen) :
    Calls Try.prog 17 #[.string s] w fun e w' => e = .returned (.int .i64 (sAll 0 s.data.toList)) ∧ w = w' := by
  unfold maxLen at hs
  go_enter Try.func17, Try.ntmps17
  go_wp2
  go_loop [3, 4] (fun n i => ∃ k : Nat, k ≤ s.size ∧ i = .int .i64 k ∧ n = .int .i64 (sAll 0 (s.data.toList.take k))) (fun _ i => s.size - (intOf i).toNat)
  case atStart => exact ⟨0, Nat.zero_le _, rfl, rfl⟩
  case round =>
    obtain ⟨k, hk, rfl, rfl⟩ := hrel
    have hi : InP (sAll 0 (s.data.toList.take k)) := sAll_0 _
    obtain ⟨hi0, hi1⟩ := hi
    by_cases hlt : k < s.size
    · have hu := u8_le s[k]
      obtain ⟨hu0, hu1⟩ := hu
      have HS : Hid (sAll 0 (s.data.toList.take (k + 1)) = sOn (sAll 0 (s.data.toList.take k)) s[k].toNat) := by rw [take_snoc s k hlt, sAll_snoc]; exact rfl
      go_wp2
      go_round
      case rel => exact ⟨k + 1, by omega, by go_num, by rw [HS.out]; unfold sOn; rw [Int.mul_comm 257]⟩
      case measure => simp [intOf]; omega
    · go_wp2
      go_ret
      exact ⟨ret_int (by rw [List.take_of_length_le (by simp; omega)]), rfl⟩

set_option maxHeartbeats 400000 in
theorem in_yes (n : Int) (w : World) (h0 : 0 ≤ n) (h1 : n < 2147483647) :
    Calls Try.prog 33 #[.int .i64 n] w fun e w' => e = .returned (.bool true) ∧ w = w' := by
  go_enter Try.func33, Try.ntmps33
  go_wp2
  go_ret
  exact ⟨rfl, rfl⟩

set_option maxHeartbeats 400000 in
theorem in_no (n : Int) (w : World) (h : n < 0 ∨ 2147483647 ≤ n) :
    Calls Try.prog 33 #[.int .i64 n] w fun e w' => e = .returned (.bool false) ∧ w = w' := by
  rcases h with h | h
  · go_enter Try.func33, Try.ntmps33
    go_wp2
    go_ret
    exact ⟨rfl, rfl⟩
  · have h0 : 0 ≤ n := by omega
    have h2 : decide (n < 2147483647) = false := by simp; omega
    go_enter Try.func33, Try.ntmps33
    go_wp2
    go_ret
    exact ⟨rfl, rfl⟩

/-! ### power, Join -/
set_option maxHeartbeats 400000 in
theorem power_any (n : Nat) (w : World) (hn : n ≤ 9223372036854775807) :
    Calls Try.prog 34 #[.int .i64 n] w fun e w' => e = .returned (.int .i64 (pw n)) ∧ w = w' := by
  go_enter Try.func34, Try.ntmps34
  go_wp2
  go_loop [0, 3, 4] (fun n' o' b' => ∃ (m : Nat) (o b : Int), m ≤ 9223372036854775807 ∧ n' = .int .i64 m ∧ o' = .int .i64 o ∧ b' = .int .i64 b ∧ InP o ∧ InP b ∧ Hid (o * pm b m % 2147483647 = pw n)) (fun n' _ _ => (intOf n').toNat)
  case atStart => exact ⟨n, 1, 257, hn, rfl, rfl, rfl, by unfold InP; omega, by unfold InP; omega, by rw [pm_pw]; exact one_mod (pw_in n)⟩
  case round =>
    obtain ⟨m, o, b, hm, rfl, rfl, rfl, ho, hb, HS⟩ := hrel
    obtain ⟨ob0, ob1⟩ := mul_in ho hb
    obtain ⟨bb0, bb1⟩ := mul_in hb hb
    by_cases hlt : 0 < m
    · by_cases hodd : m % 2 = 1
      · have hp : ((m : Int) % 2 == 1) = true := by simp; omega
        have H1 := Lib.hid hodd
        clear hodd
        go_wp2
        go_round
        case rel => exact ⟨m / 2, _, _, by omega, by go_num, rfl, rfl, by unfold InP; omega, by unfold InP; omega, by unfold Hid; rw [pm_odd H1.out]; exact HS⟩
        case measure => simp [intOf]; omega
      · have hp : ((m : Int) % 2 == 1) = false := by simp; omega
        have H1 := Lib.hid hodd
        clear hodd
        go_wp2
        go_round
        case rel => exact ⟨m / 2, _, _, by omega, by go_num, rfl, rfl, ho, by unfold InP; omega, by unfold Hid; rw [pm_even (by have := H1.out; omega)]; exact HS⟩
        case measure => simp [intOf]; omega
    · have h0 : m = 0 := by omega
      subst h0
      go_wp2
      go_ret
      refine ⟨ret_int ?_, rfl⟩
      have := HS.out
      simp only [pm, Int.mul_one] at this
      rw [← this]
      unfold InP at ho
      show o = _
      omega

/-- What 'Join' gives. -/
def joinN (a b : Int) (n : Nat) : Int := (a * pw n + b) % 2147483647

set_option maxHeartbeats 400000 in
theorem join_yes (a b : Int) (n : Nat) (w : World) (ha : InP a) (hb : InP b) (hn : n ≤ 9223372036854775807) :
    Calls Try.prog 11 #[.int .i64 a, .int .i64 b, .int .i64 n] w fun e w' => e = .returned (.tuple #[.int .i64 (joinN a b n), .int .i64 0]) ∧ w = w' := by
  obtain ⟨m0, m1⟩ := mul_in ha (pw_in n)
  obtain ⟨a0, a1⟩ := ha
  obtain ⟨b0, b1⟩ := hb
  go_enter Try.func11, Try.ntmps11
  go_wp2_with (first | (go_at_call 33; refine (in_yes _ _ (by assumption) (by assumption)).mono ?_; rintro e w' ⟨rfl, rfl⟩) | (go_at_call 34; refine (power_any _ _ (by assumption)).mono ?_; rintro e w' ⟨rfl, rfl⟩))
  go_ret2
  exact ⟨rfl, rfl⟩

set_option maxHeartbeats 400000 in
theorem join_no (a b n : Int) (w : World) (h : ¬ (InP a ∧ InP b ∧ 0 ≤ n)) :
    Calls Try.prog 11 #[.int .i64 a, .int .i64 b, .int .i64 n] w fun e w' => e = .returned (.tuple #[.int .i64 0, .int .i64 1]) ∧ w = w' := by
  by_cases ha : InP a
  · by_cases hb : InP b
    · have hn : n < 0 := by
        by_cases hn : 0 ≤ n
        · exact absurd ⟨ha, hb, hn⟩ h
        · omega
      clear h
      obtain ⟨a0, a1⟩ := ha
      obtain ⟨b0, b1⟩ := hb
      go_enter Try.func11, Try.ntmps11
      go_wp2_with (go_at_call 33; refine (in_yes _ _ (by assumption) (by assumption)).mono ?_; rintro e w' ⟨rfl, rfl⟩)
      go_ret2
      exact ⟨rfl, rfl⟩
    · have hb' : b < 0 ∨ 2147483647 ≤ b := by unfold InP at hb; omega
      clear h hb
      obtain ⟨a0, a1⟩ := ha
      go_enter Try.func11, Try.ntmps11
      go_wp2_with fail
      refine (in_yes _ _ a0 a1).mono ?_; rintro e w' ⟨rfl, rfl⟩
      go_wp2_with fail
      refine (in_no _ _ hb').mono ?_; rintro e w' ⟨rfl, rfl⟩
      go_wp2
      go_ret2
      exact ⟨rfl, rfl⟩
  · have ha' : a < 0 ∨ 2147483647 ≤ a := by unfold InP at ha; omega
    clear h ha
    go_enter Try.func11, Try.ntmps11
    go_wp2_with fail
    refine (in_no _ _ ha').mono ?_; rintro e w' ⟨rfl, rfl⟩
    go_wp2
    go_ret2
    exact ⟨rfl, rfl⟩

end Go.Proofs.Ytgoeabkoljabkaa
