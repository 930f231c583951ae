/- Walks of record's small functions, and of the reference's. -/
import Derived.Test.YtgoeabkoljabkaaMem
import Derived.Test.YtgoeabkoljabkaaRecP
import Derived.Lib.AppendStr
namespace Go.Proofs.Ytgoeabkoljabkaa
open Go.RowKit
attribute [local go_sem ↓] Go.wp_at_zero Go.wp_at_succ

set_option maxHeartbeats 400000 in
theorem told_any (s : ByteArray) (w : World) (h : s.size ≤ 6) :
    Calls Try.prog 37 #[.string s] w fun e w' => e = .returned (.int .i64 (num4 s.data.toList)) ∧ w = w' := by
  go_enter Try.func37, Try.ntmps37
  go_wp2
  go_loop [3, 7] (fun n i => ∃ k : Nat, k ≤ s.size ∧ i = .int .i64 k ∧ n = .int .i64 (num4 (s.data.toList.take k)) ∧ 0 ≤ num4 (s.data.toList.take k) ∧ num4 (s.data.toList.take k) < 256 ^ k) (fun _ i => s.size - (intOf i).toNat)
  case atStart => exact ⟨0, Nat.zero_le _, rfl, rfl, by simp [num4], by simp [num4]⟩
  case round =>
    obtain ⟨k, hk, rfl, rfl, hi0, hi1⟩ := hrel
    by_cases hlt : k < s.size
    · have hu := u8_le s[k]
      obtain ⟨hu0, hu1⟩ := hu
      have HS : Hid (num4 (s.data.toList.take (k + 1)) = num4 (s.data.toList.take k) * 256 + s[k].toNat) := by rw [take_snoc s k hlt, num4_snoc]; exact rfl
      have hp : (256 : Int) ^ k ≤ 1099511627776 := by
        rcases (by omega : k = 0 ∨ k = 1 ∨ k = 2 ∨ k = 3 ∨ k = 4 ∨ k = 5) with rfl | rfl | rfl | rfl | rfl | rfl <;> decide
      have hi2 : num4 (s.data.toList.take k) < 1099511627776 := by omega
      clear hp
      have H1 := Lib.hid hi1
      clear hi1
      generalize num4 (s.data.toList.take k) = x at *
      go_wp2
      go_round
      case rel =>
        rw [or8 _ _ (by omega) (by omega) (by omega) hu0 (by omega)]
        refine ⟨k + 1, by omega, by go_num, by rw [HS.out], by rw [HS.out]; omega, ?_⟩
        rw [HS.out, Int.pow_succ]
        have := H1.out
        omega
      case measure => simp [intOf]; omega
    · have hk4 : k = s.size := by omega
      subst hk4
      clear hi1
      rw [take_size] at hi0 ⊢
      go_wp2
      go_ret
      exact ⟨rfl, rfl⟩

set_option maxHeartbeats 400000 in
theorem rnumber_any (s : ByteArray) (w : World) (h : s.size ≤ 6) :
    Calls Try.prog 38 #[.string s] w fun e w' => e = .returned (.int .i64 (num4 s.data.toList)) ∧ w = w' := by
  go_enter Try.func38, Try.ntmps38
  go_wp2
  go_loop [3, 4] (fun n i => ∃ k : Nat, k ≤ s.size ∧ i = .int .i64 k ∧ n = .int .i64 (num4 (s.data.toList.take k)) ∧ 0 ≤ num4 (s.data.toList.take k) ∧ num4 (s.data.toList.take k) < 256 ^ k) (fun _ i => s.size - (intOf i).toNat)
  case atStart => exact ⟨0, Nat.zero_le _, rfl, rfl, by simp [num4], by simp [num4]⟩
  case round =>
    obtain ⟨k, hk, rfl, rfl, hi0, hi1⟩ := hrel
    by_cases hlt : k < s.size
    · have hu := u8_le s[k]
      obtain ⟨hu0, hu1⟩ := hu
      have HS : Hid (num4 (s.data.toList.take (k + 1)) = num4 (s.data.toList.take k) * 256 + s[k].toNat) := by rw [take_snoc s k hlt, num4_snoc]; exact rfl
      have hp : (256 : Int) ^ k ≤ 1099511627776 := by
        rcases (by omega : k = 0 ∨ k = 1 ∨ k = 2 ∨ k = 3 ∨ k = 4 ∨ k = 5) with rfl | rfl | rfl | rfl | rfl | rfl <;> decide
      have hi2 : num4 (s.data.toList.take k) < 1099511627776 := by omega
      clear hp
      have H1 := Lib.hid hi1
      clear hi1
      generalize num4 (s.data.toList.take k) = x at *
      go_wp2
      go_round
      case rel =>
        refine ⟨k + 1, by omega, by go_num, by rw [HS.out, Int.mul_comm 256], by rw [HS.out]; omega, ?_⟩
        rw [HS.out, Int.pow_succ]
        have := H1.out
        omega
      case measure => simp [intOf]; omega
    · have hk4 : k = s.size := by omega
      subst hk4
      clear hi1
      rw [take_size] at hi0 ⊢
      go_wp2
      go_ret
      exact ⟨rfl, rfl⟩

def itV (k a : Int) (s : ByteArray) : Value := .agg #[.int .i64 k, .int .i64 a, .string s]

set_option maxHeartbeats 400000 in
theorem is_any (a : Int) (w : World) :
    Calls Try.prog 41 #[.int .i64 a] w fun e w' => e = .returned (.bool (decide (0 ≤ a ∧ a ≤ 1099511627776))) ∧ w = w' := by
  by_cases h0 : 0 ≤ a
  · by_cases h1 : a ≤ 1099511627776
    · rw [decide_eq_true ⟨h0, h1⟩]
      go_enter Try.func41, Try.ntmps41
      go_wp2
      go_ret
      exact ⟨rfl, rfl⟩
    · rw [decide_eq_false (fun h => h1 h.2)]
      go_enter Try.func41, Try.ntmps41
      go_wp2
      go_ret
      exact ⟨rfl, rfl⟩
  · rw [decide_eq_false (fun h => h0 h.1)]
    go_enter Try.func41, Try.ntmps41
    go_wp2
    go_ret
    exact ⟨rfl, rfl⟩

theorem chk_1 {k a : Int} {n : Nat} (h : k < 1 ∨ 15 < k) : chk k a n = 1 := if_pos h
theorem chk_2 {k a : Int} {n : Nat} (h : 1 ≤ k) (h' : k ≤ 15) (ha : a < 0 ∨ 1099511627776 < a) : chk k a n = 2 := by unfold chk; rw [if_neg (by omega), if_pos ha]
theorem chk_5 {k a : Int} {n : Nat} (h : 1 ≤ k) (h' : k ≤ 15) (h0 : 0 ≤ a) (h1 : a ≤ 1099511627776) (hn : 4096 < n) : chk k a n = 5 := by unfold chk; rw [if_neg (by omega), if_neg (by omega), if_pos hn]

set_option maxHeartbeats 400000 in
theorem check_any (k a : Int) (s : ByteArray) (w : World) :
    Calls Try.prog 29 #[itV k a s] w fun e w' => e = .returned (.int .i64 (chk k a s.size)) ∧ Below w.heap.size w w' := by
  unfold itV
  have hb := (Below.refl w.heap.size w).alloc (Nat.le_refl _) (.cells #[.int .i64 k, .int .i64 a, .string s] 36)
  by_cases h1 : k < 1
  · rw [chk_1 (.inl h1)]
    go_enter Try.func29, Try.ntmps29
    go_wp2
    go_ret
    exact ⟨rfl, hb⟩
  · by_cases h2 : 15 < k
    · rw [chk_1 (.inr h2)]
      go_enter Try.func29, Try.ntmps29
      go_wp2
      go_ret
      exact ⟨rfl, hb⟩
    · by_cases h3 : 0 ≤ a ∧ a ≤ 1099511627776
      · have hd : decide (0 ≤ a ∧ a ≤ 1099511627776) = true := decide_eq_true h3
        have HD := Lib.hid hd
        obtain ⟨h3, h4⟩ := h3
        clear hd
        by_cases h5 : 4096 < s.size
        · have h6 : (4096 : Int) < s.size := by omega
          rw [chk_5 (by omega) (by omega) h3 h4 h5]
          clear h5
          go_enter Try.func29, Try.ntmps29
          go_wp2_with (go_at_call 41; refine (is_any _ _).mono ?_; rintro e w' ⟨rfl, rfl⟩; rw [HD.out])
          go_ret
          exact ⟨rfl, hb⟩
        · have h6 : ¬ (4096 : Int) < s.size := by omega
          rw [chk_of (by omega) (by omega) h3 h4 (by omega)]
          clear h5
          go_enter Try.func29, Try.ntmps29
          go_wp2_with (go_at_call 41; refine (is_any _ _).mono ?_; rintro e w' ⟨rfl, rfl⟩; rw [HD.out])
          go_ret
          exact ⟨rfl, hb⟩
      · rw [chk_2 (by omega) (by omega) (by omega)]
        have hd : decide (0 ≤ a ∧ a ≤ 1099511627776) = false := decide_eq_false h3
        have HD := Lib.hid hd
        clear hd h3
        go_enter Try.func29, Try.ntmps29
        go_wp2_with (go_at_call 41; refine (is_any _ _).mono ?_; rintro e w' ⟨rfl, rfl⟩; rw [HD.out])
        go_ret
        exact ⟨rfl, hb⟩

set_option maxHeartbeats 400000 in
theorem rcheck_any (k a : Int) (s : ByteArray) (w : World) :
    Calls Try.prog 39 #[itV k a s] w fun e w' => e = .returned (.int .i64 (chk k a s.size)) ∧ Below w.heap.size w w' := by
  unfold itV
  have hb := (Below.refl w.heap.size w).alloc (Nat.le_refl _) (.cells #[.int .i64 k, .int .i64 a, .string s] 36)
  by_cases h1 : k < 1
  · rw [chk_1 (.inl h1)]
    go_enter Try.func39, Try.ntmps39
    go_wp2
    go_ret
    exact ⟨rfl, hb⟩
  · by_cases h2 : 15 < k
    · rw [chk_1 (.inr h2)]
      go_enter Try.func39, Try.ntmps39
      go_wp2
      go_ret
      exact ⟨rfl, hb⟩
    · by_cases h3 : a < 0
      · rw [chk_2 (by omega) (by omega) (by omega)]
        go_enter Try.func39, Try.ntmps39
        go_wp2
        go_ret
        exact ⟨rfl, hb⟩
      · by_cases h4 : 1099511627776 < a
        · rw [chk_2 (by omega) (by omega) (by omega)]
          go_enter Try.func39, Try.ntmps39
          go_wp2
          go_ret
          exact ⟨rfl, hb⟩
        · by_cases h5 : 4096 < s.size
          · have h6 : (4096 : Int) < s.size := by omega
            rw [chk_5 (by omega) (by omega) (by omega) (by omega) h5]
            clear h5
            go_enter Try.func39, Try.ntmps39
            go_wp2
            go_ret
            exact ⟨rfl, hb⟩
          · have h6 : ¬ (4096 : Int) < s.size := by omega
            rw [chk_of (by omega) (by omega) (by omega) (by omega) (by omega)]
            clear h5
            go_enter Try.func39, Try.ntmps39
            go_wp2
            go_ret
            exact ⟨rfl, hb⟩

set_option maxHeartbeats 400000 in
theorem len_any (k a : Int) (s : ByteArray) (w : World) (h : s.size ≤ 5000) :
    Calls Try.prog 30 #[itV k a s] w fun e w' => e = .returned (.int .i64 ((14 + s.size : Nat) : Int)) ∧ Below w.heap.size w w' := by
  unfold itV
  have hb := (Below.refl w.heap.size w).alloc (Nat.le_refl _) (.cells #[.int .i64 k, .int .i64 a, .string s] 36)
  go_enter Try.func30, Try.ntmps30
  go_wp2
  go_ret
  exact ⟨ret_int (by omega), hb⟩

theorem u8V (x : Int) : Value.int .u8 (x % 256) = .int .u8 ((UInt8.ofNat (x % 256).toNat).toNat : Int) := by rw [u8_of _ (by omega) (by omega)]
theorem pow8 (j : Nat) : (2 : Int) ^ (8 * j) = 256 ^ j := by rw [Int.pow_mul]; rfl

/-- What 'number' gives: the row with the bytes behind it. -/
def NumPost (base : Nat) (l : List UInt8) (k : Nat) (n : Int) (w : World) (e : Ending) (w' : World) : Prop :=
  ∃ v, e = .returned v ∧ w'.ownsRow base 5 1 v (l.length + k) (bytesV (l ++ be k n)) ∧ Below base w w'

set_option maxHeartbeats 1000000 in
theorem number_any (base : Nat) (v : Value) (l : List UInt8) (n : Int) (wide : Nat) (w : World) (hw : 1 ≤ wide) (hw6 : wide ≤ 6) (hl : l.length ≤ 100) (hbase : base ≤ w.heap.size) (hown : w.ownsRow base 5 1 v l.length (bytesV l)) :
    Calls Try.prog 40 #[v, .int .i64 n, .int .i64 wide] w fun e w' => NumPost base l wide n w e w' := by
  obtain ⟨i0, hi, hz0, hz1, hz2⟩ := info_parts Try.info5
  go_enter Try.func40, Try.ntmps40
  go_wp2
  go_loopw [0, 7] (fun out i wr => ∃ k : Nat, k ≤ wide ∧ i = .int .i64 ((wide : Int) - 1 - k) ∧ wr.ownsRow base 5 1 out (l.length + k) (bytesV (l ++ be k (n / 256 ^ (wide - k)))) ∧ Below base w wr) (fun _ i _ => (intOf i + 1).toNat)
  case atStart => exact ⟨0, by omega, by go_num, by simpa [be] using hown, Below.refl _ _⟩
  case round =>
    clear hown
    obtain ⟨k, hk, rfl, hown, hb⟩ := hrel
    by_cases hlt : k < wide
    · obtain ⟨j, hj⟩ : ∃ j : Nat, wide = k + 1 + j := ⟨wide - k - 1, by omega⟩
      have hi2 : (wide : Int) - 1 - k = (j : Int) := by omega
      rw [hi2]
      have e8 : n / 2 ^ (8 * (j : Int)).toNat = n / 256 ^ j := by rw [show (8 * (j : Int)).toNat = 8 * j from by omega, pow8]
      have HS : Hid (bytesV (l ++ be (k + 1) (n / 256 ^ j)) = bytesV (l ++ be k (n / 256 ^ (wide - k))) ++ [.int .u8 (n / 256 ^ j % 256)]) := by
        unfold Hid
        have e : n / 256 ^ (wide - k) = n / 256 ^ j / 256 := by
          rw [show wide - k = j + 1 from by omega, Int.ediv_ediv_of_nonneg (Int.pow_nonneg (by decide)), Int.pow_succ]
        rw [e, be, ← List.append_assoc, bytesV_append (l ++ _), u8V]; rfl
      have HW : Hid (wide - (k + 1) = j) := by unfold Hid; omega
      generalize bytesV (l ++ be k (n / 256 ^ (wide - k))) = row at *
      have g1 : (j : Int) ≤ 5 := by omega
      have HJ := Lib.hid hj
      clear hi2 hj
      go_wp2_with (at_builtin; refine wpList_append_own _ rfl _ _ 29 rfl base 5 i0 (.int .u8 0) 1 1 Try.underlying29 hi hz0 hz1 hz2 rfl (by decide) _ _ _ rfl (hown.alloc _) ⟨_, 0, none⟩ 1 1 [.int .u8 (n / 256 ^ j % 256)] rfl rfl ?c1 ?c2 ?c3 ?c4 ?c5 ?_)
      case c1 => exact World.news_of_block (cs := #[.int .u8 (n / 256 ^ j % 256)]) (heap_alloc_new wr _)
      case c2 => intro u hu; simp at hu; subst hu; rfl
      case c3 => unfold maxLen; omega
      case c4 => omega
      case c5 => have := hb.size; simp; omega
      intro v2 w2 hown2 hgrow2 _
      have hb2 : Below base w w2 := (hb.alloc (by have := hb.size; omega) _).grown hgrow2 (by have := hb.size; simp; omega) (own_grown_ge hown)
      clear hown hgrow2 hb
      go_wp2
      have hj := HJ.out
      exact ⟨⟨k + 1, by omega, by rw [show (wide : Int) - 1 - (k + 1 : Nat) = (j : Int) - 1 from by omega], by rw [HW.out, HS.out]; exact hown2, hb2⟩, by simp [intOf]⟩
    · have ek : k = wide := by omega
      subst ek
      have e0 : (k : Int) - 1 - k = -1 := by omega
      rw [Nat.sub_self, Int.pow_zero, Int.ediv_one] at hown
      rw [e0]
      go_wp2
      go_ret
      exact ⟨_, rfl, hown, hb⟩

end Go.Proofs.Ytgoeabkoljabkaa
