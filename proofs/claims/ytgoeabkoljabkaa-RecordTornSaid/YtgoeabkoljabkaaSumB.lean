/- Walks of the reference's Join, of Read and Put and Fits of both. -/
import Derived.Test.YtgoeabkoljabkaaSumA
namespace Go.Proofs.Ytgoeabkoljabkaa
open Go.RowKit

theorem rj_step (a : Int) (k : Nat) : 257 * (a * pw k % 2147483647) % 2147483647 = a * pw (k + 1) % 2147483647 := by
  simp only [pw]
  rw [mul_mod_r, mul_mod_r]
  congr 1
  rw [Int.mul_left_comm]

set_option maxHeartbeats 400000 in
theorem rjoin_yes (a b : Int) (n : Nat) (w : World) (ha : InP a) (hb : InP b) (hn : n ≤ 9223372036854775807) :
    Calls Try.prog 13 #[.int .i64 a, .int .i64 b, .int .i64 n] w fun e w' => e = .returned (.tuple #[.int .i64 (joinN a b n), .int .i64 0]) ∧ w = w' := by
  have HA := Lib.hid ha
  obtain ⟨a0, a1⟩ := ha
  obtain ⟨b0, b1⟩ := hb
  have q1 : decide (a < 0) = false := by simp; omega
  have q2 : decide (2147483647 ≤ a) = false := by simp; omega
  have q3 : decide (b < 0) = false := by simp; omega
  have q4 : decide (2147483647 ≤ b) = false := by simp; omega
  go_enter Try.func13, Try.ntmps13
  go_wp2
  go_loop [0, 8] (fun x i => ∃ k : Nat, k ≤ n ∧ i = .int .i64 k ∧ x = .int .i64 (a * pw k % 2147483647)) (fun _ i => n - (intOf i).toNat)
  case atStart =>
    refine ⟨0, Nat.zero_le _, rfl, ?_⟩
    have : a * pw 0 % 2147483647 = a := by simp only [pw, Int.mul_one]; omega
    rw [this]
  case round =>
    obtain ⟨k, hk, rfl, rfl⟩ := hrel
    have hi : InP (a * pw k % 2147483647) := by unfold InP; omega
    obtain ⟨hi0, hi1⟩ := hi
    by_cases hlt : k < n
    · have HS := Lib.hid (rj_step a k)
      generalize a * pw k % 2147483647 = x at *
      go_wp2
      go_round
      case rel => exact ⟨k + 1, by omega, by go_num, by rw [← HS.out]⟩
      case measure => simp [intOf]; omega
    · have hkn : k = n := by omega
      subst hkn
      go_wp2
      go_ret2
      refine ⟨?_, rfl⟩
      simp [joinN]

set_option maxHeartbeats 400000 in
theorem rjoin_no (a b n : Int) (w : World) (h : ¬ (InP a ∧ InP b ∧ 0 ≤ n)) :
    Calls Try.prog 13 #[.int .i64 a, .int .i64 b, .int .i64 n] w fun e w' => e = .returned (.tuple #[.int .i64 0, .int .i64 1]) ∧ w = w' := by
  by_cases h1 : a < 0
  · go_enter Try.func13, Try.ntmps13
    go_wp2
    go_ret2
    exact ⟨rfl, rfl⟩
  · by_cases h2 : 2147483647 ≤ a
    · clear h
      go_enter Try.func13, Try.ntmps13
      go_wp2
      go_ret2
      exact ⟨rfl, rfl⟩
    · by_cases h3 : b < 0
      · clear h
        go_enter Try.func13, Try.ntmps13
        go_wp2
        go_ret2
        exact ⟨rfl, rfl⟩
      · by_cases h4 : 2147483647 ≤ b
        · clear h
          go_enter Try.func13, Try.ntmps13
          go_wp2
          go_ret2
          exact ⟨rfl, rfl⟩
        · have h5 : n < 0 := by unfold InP at h; omega
          clear h
          go_enter Try.func13, Try.ntmps13
          go_wp2
          go_ret2
          exact ⟨rfl, rfl⟩

/-! ### Read -/
theorem wraps_i64 (n : Int) (h0 : 0 ≤ n) (h1 : n < 2 ^ 63) : IntKind.i64.wrap n = n := by rw [IntKind.wrap_i64]; omega
/-- 'x | y' where y is a byte and x a multiple of 256. -/
theorem or8 (x y : Int) (hx0 : 0 ≤ x) (hx : x % 256 = 0) (hx1 : x < 9223372036854775808) (hy0 : 0 ≤ y) (hy : y < 256) : bits .or .i64 x y = x + y :=
  bits_join .i64 63 (by decide) wraps_i64 8 x y hx0 hx hx1 hy0 hy (by omega)

set_option maxHeartbeats 400000 in
theorem read_size (s : ByteArray) (w : World) (h : s.size ≠ 4) :
    Calls Try.prog 14 #[.string s] w fun e w' => e = .returned (.tuple #[.int .i64 0, .int .i64 5]) ∧ w = w' := by
  have hd : ((s.size : Int) != 4) = true := by rw [bne_iff_ne]; omega
  go_enter Try.func14, Try.ntmps14
  go_wp2
  go_ret2
  exact ⟨rfl, rfl⟩

/-- What 'Read' gives of four bytes. -/
def readV (x : Int) : Int := if x < 2147483647 then x else 0
def readE (x : Int) : Int := if x < 2147483647 then 0 else 2
theorem readV_lt {x : Int} (h : x < 2147483647) : readV x = x := if_pos h
theorem readE_lt {x : Int} (h : x < 2147483647) : readE x = 0 := if_pos h
theorem readV_ge {x : Int} (h : 2147483647 ≤ x) : readV x = 0 := if_neg (by omega)
theorem readE_ge {x : Int} (h : 2147483647 ≤ x) : readE x = 2 := if_neg (by omega)

set_option maxHeartbeats 400000 in
theorem read_any (s : ByteArray) (w : World) (h : s.size = 4) :
    Calls Try.prog 14 #[.string s] w fun e w' => e = .returned (.tuple #[.int .i64 (readV (num4 s.data.toList)), .int .i64 (readE (num4 s.data.toList))]) ∧ w = w' := by
  have hd : ((s.size : Int) != 4) = false := by simp; omega
  have hs : 4 ≤ s.size := by omega
  have hs' : s.size ≤ 4 := by omega
  clear h
  go_enter Try.func14, Try.ntmps14
  go_wp2
  go_loop [4, 9] (fun n i => ∃ k : Nat, k ≤ 4 ∧ i = .int .i64 k ∧ n = .int .i64 (num4 (s.data.toList.take k)) ∧ 0 ≤ num4 (s.data.toList.take k) ∧ num4 (s.data.toList.take k) < 256 ^ k) (fun _ i => 4 - (intOf i).toNat)
  case atStart => exact ⟨0, Nat.zero_le _, rfl, rfl, by simp [num4], by simp [num4]⟩
  case round =>
    obtain ⟨k, hk, rfl, rfl, hi0, hi1⟩ := hrel
    by_cases hlt : k < 4
    · have hlt' : k < s.size := by omega
      have hu := u8_le s[k]
      obtain ⟨hu0, hu1⟩ := hu
      have HS : Hid (num4 (s.data.toList.take (k + 1)) = num4 (s.data.toList.take k) * 256 + s[k].toNat) := by rw [take_snoc s k hlt', num4_snoc]; exact rfl
      have hp : (256 : Int) ^ k ≤ 16777216 := by
        rcases (by omega : k = 0 ∨ k = 1 ∨ k = 2 ∨ k = 3) with rfl | rfl | rfl | rfl <;> decide
      have hi2 : num4 (s.data.toList.take k) < 16777216 := by omega
      clear hp
      have H1 := Lib.hid hi1
      clear hi1
      generalize num4 (s.data.toList.take k) = x at *
      go_wp2
      go_round
      case rel =>
        rw [or8 _ _ (by omega) (by omega) (by omega) hu0 (by omega)]
        refine ⟨k + 1, by omega, by go_num, by rw [HS.out], by rw [HS.out]; omega, ?_⟩
        rw [HS.out, Int.pow_succ]
        have := H1.out
        omega
      case measure => simp [intOf]; omega
    · have hk4 : k = 4 := by omega
      subst hk4
      clear hi1
      have he : s.data.toList.take 4 = s.data.toList := List.take_of_length_le (by simp; omega)
      rw [he] at hi0 ⊢
      clear he
      have HX : ∃ x, x = num4 s.data.toList := ⟨_, rfl⟩
      obtain ⟨x, hx⟩ := HX
      rw [← hx] at hi0 ⊢
      have HX := Lib.hid hx
      clear hx
      by_cases hp : x < 2147483647
      · go_wp2_with (go_at_call 33; refine (in_yes _ _ (by assumption) (by assumption)).mono ?_; rintro e w' ⟨rfl, rfl⟩)
        go_ret2
        exact ⟨by rw [← HX.out]; rw [readV_lt (by omega), readE_lt (by omega)]; rfl, rfl⟩
      · have hp' : x < 0 ∨ 2147483647 ≤ x := by omega
        go_wp2_with (go_at_call 33; refine (in_no _ _ (by assumption)).mono ?_; rintro e w' ⟨rfl, rfl⟩)
        go_ret2
        exact ⟨by rw [← HX.out]; rw [readV_ge (by omega), readE_ge (by omega)]; rfl, rfl⟩

set_option maxHeartbeats 400000 in
theorem rread_size (s : ByteArray) (w : World) (h : s.size ≠ 4) :
    Calls Try.prog 15 #[.string s] w fun e w' => e = .returned (.tuple #[.int .i64 0, .int .i64 5]) ∧ w = w' := by
  have hd : ((s.size : Int) != 4) = true := by rw [bne_iff_ne]; omega
  go_enter Try.func15, Try.ntmps15
  go_wp2
  go_ret2
  exact ⟨rfl, rfl⟩

theorem four_of (s : ByteArray) (h : s.size = 4) : ∃ a b c d : UInt8, s = ⟨#[a, b, c, d]⟩ := by
  obtain ⟨⟨l⟩⟩ := s
  match l, h with
  | [a, b, c, d], _ => exact ⟨a, b, c, d, rfl⟩

theorem num4_s (s : ByteArray) (h : s.size = 4) : num4 s.data.toList = ((((s[0].toNat : Int) * (256 : Int) + (s[1].toNat : Int)) * (256 : Int) + (s[2].toNat : Int)) * (256 : Int) + (s[3].toNat : Int)) := by
  obtain ⟨a, b, c, d, rfl⟩ := four_of s h
  exact num4_of a b c d

set_option maxHeartbeats 400000 in
theorem rread_any (s : ByteArray) (w : World) (h : s.size = 4) :
    Calls Try.prog 15 #[.string s] w fun e w' => e = .returned (.tuple #[.int .i64 (readV (num4 s.data.toList)), .int .i64 (readE (num4 s.data.toList))]) ∧ ∃ n, w' = w.drewN n := by
  have HN := Lib.hid (num4_s s h)
  have hd : ((s.size : Int) != 4) = false := by simp; omega
  have HH := Lib.hid h
  have i0 : 0 < s.size := by omega
  have i1 : 1 < s.size := by omega
  have i2 : 2 < s.size := by omega
  have i3 : 3 < s.size := by omega
  have j1 : (1 : Int) < s.size := by omega
  have j2 : (2 : Int) < s.size := by omega
  have j3 : (3 : Int) < s.size := by omega
  obtain ⟨a0, a1⟩ := u8_le s[0]
  obtain ⟨b0, b1⟩ := u8_le s[1]
  obtain ⟨c0, c1⟩ := u8_le s[2]
  obtain ⟨d0, d1⟩ := u8_le s[3]
  have e0 : IntKind.i64.wrap (s[0].toNat : Int) = (s[0].toNat : Int) := IntWalk.i64_in _ (by omega)
  have e1 : IntKind.i64.wrap (s[1].toNat : Int) = (s[1].toNat : Int) := IntWalk.i64_in _ (by omega)
  have e2 : IntKind.i64.wrap (s[2].toNat : Int) = (s[2].toNat : Int) := IntWalk.i64_in _ (by omega)
  have e3 : IntKind.i64.wrap (s[3].toNat : Int) = (s[3].toNat : Int) := IntWalk.i64_in _ (by omega)
  have f0 : IntKind.i64.wrap ((s[0].toNat : Int) * (256 : Int)) = (s[0].toNat : Int) * (256 : Int) := IntWalk.i64_in _ (by omega)
  have f1 : IntKind.i64.wrap ((s[0].toNat : Int) * (256 : Int) + (s[1].toNat : Int)) = (s[0].toNat : Int) * (256 : Int) + (s[1].toNat : Int) := IntWalk.i64_in _ (by omega)
  have f2 : IntKind.i64.wrap (((s[0].toNat : Int) * (256 : Int) + (s[1].toNat : Int)) * (256 : Int)) = ((s[0].toNat : Int) * (256 : Int) + (s[1].toNat : Int)) * (256 : Int) := IntWalk.i64_in _ (by omega)
  have f3 : IntKind.i64.wrap (((s[0].toNat : Int) * (256 : Int) + (s[1].toNat : Int)) * (256 : Int) + (s[2].toNat : Int)) = ((s[0].toNat : Int) * (256 : Int) + (s[1].toNat : Int)) * (256 : Int) + (s[2].toNat : Int) := IntWalk.i64_in _ (by omega)
  have f4 : IntKind.i64.wrap ((((s[0].toNat : Int) * (256 : Int) + (s[1].toNat : Int)) * (256 : Int) + (s[2].toNat : Int)) * (256 : Int)) = (((s[0].toNat : Int) * (256 : Int) + (s[1].toNat : Int)) * (256 : Int) + (s[2].toNat : Int)) * (256 : Int) := IntWalk.i64_in _ (by omega)
  have f5 : IntKind.i64.wrap ((((s[0].toNat : Int) * (256 : Int) + (s[1].toNat : Int)) * (256 : Int) + (s[2].toNat : Int)) * (256 : Int) + (s[3].toNat : Int)) = (((s[0].toNat : Int) * (256 : Int) + (s[1].toNat : Int)) * (256 : Int) + (s[2].toNat : Int)) * (256 : Int) + (s[3].toNat : Int) := IntWalk.i64_in _ (by omega)
  go_enter Try.func15, Try.ntmps15
  go_wp2
  go_quiet (fail)
  clear e0 e1 e2 e3 f0 f1 f2 f3 f4 f5
  have hx : ∃ x, Hid (x = num4 s.data.toList) ∧ x = ((((s[0].toNat : Int) * (256 : Int) + (s[1].toNat : Int)) * (256 : Int) + (s[2].toNat : Int)) * (256 : Int) + (s[3].toNat : Int)) := ⟨_, HN.out.symm, rfl⟩
  obtain ⟨x, HX, hx⟩ := hx
  have hx0 : 0 ≤ x := by omega
  rw [← hx]
  clear hx
  by_cases hp : x < 2147483647
  · go_wp2
    go_ret2
    exact ⟨by rw [← HX.out]; rw [readV_lt (by omega), readE_lt (by omega)]; rfl, _, rfl⟩
  · go_wp2
    go_ret2
    exact ⟨by rw [← HX.out]; rw [readV_ge (by omega), readE_ge (by omega)]; rfl, _, rfl⟩

/-! ### Put -/

set_option maxHeartbeats 400000 in
theorem rput_no (n : Int) (w : World) (h : n < 0 ∨ 2147483647 ≤ n) :
    Calls Try.prog 18 #[.int .i64 n] w fun e w' => e = .returned (.string ⟨#[]⟩) ∧ w = w' := by
  rcases h with h | h
  · go_enter Try.func18, Try.ntmps18
    go_wp2
    go_ret
    exact ⟨rfl, rfl⟩
  · go_enter Try.func18, Try.ntmps18
    go_wp2
    go_ret
    exact ⟨rfl, rfl⟩

theorem putL_cell (n : Int) (h0 : 0 ≤ n) (h1 : n < 2147483647) (j : Nat) (hj : j < (putL n).length) :
    (#[Value.int .u8 (n / 16777216), .int .u8 (n / 65536 % 256), .int .u8 (n / 256 % 256), .int .u8 (n % 256)] : Array Value)[j]? = some (.int .u8 (((putL n)[j]).toNat : Int)) := by
  have b (x : Int) (a : 0 ≤ x) (c : x ≤ 255) : ((UInt8.ofNat x.toNat).toNat : Int) = x := by
    rw [UInt8.toNat_ofNat', Nat.mod_eq_of_lt (by omega)]; omega
  match j, hj with
  | 0, _ => exact congrArg (fun z => some (Value.int .u8 z)) (b (n / 16777216) (by omega) (by omega)).symm
  | 1, _ => exact congrArg (fun z => some (Value.int .u8 z)) (b (n / 65536 % 256) (by omega) (by omega)).symm
  | 2, _ => exact congrArg (fun z => some (Value.int .u8 z)) (b (n / 256 % 256) (by omega) (by omega)).symm
  | 3, _ => exact congrArg (fun z => some (Value.int .u8 z)) (b (n % 256) (by omega) (by omega)).symm

theorem putL_string (n : Int) (h0 : 0 ≤ n) (h1 : n < 2147483647) (w : World) (fr : Nat × Nat) :
    (convert 29 9 (.slice (some ⟨w.heap.size, 0, none⟩) 4 4)).run Try.prog (w.alloc (.cells #[.int .u8 (n / 16777216), .int .u8 (n / 65536 % 256), .int .u8 (n / 256 % 256), .int .u8 (n % 256)] 5 fr)) = .ok (.string ⟨(putL n).toArray⟩) (w.alloc (.cells #[.int .u8 (n / 16777216), .int .u8 (n / 65536 % 256), .int .u8 (n / 256 % 256), .int .u8 (n % 256)] 5 fr)) := by
  refine run_convert_bytes_back _ 29 9 5 _ 4 (putL n) Try.underlying29 Try.underlying5 Try.underlying9 (fun j hj => ?_)
  have : (⟨w.heap.size, 0, none⟩ : Addr).add j = ⟨w.heap.size, j, none⟩ := by unfold Addr.add; split <;> simp_all
  rw [this, World.cell?_alloc_mark]
  exact putL_cell n h0 h1 j hj

set_option maxHeartbeats 400000 in
theorem rput_yes (n : Int) (w : World) (h0 : 0 ≤ n) (h1 : n < 2147483647) :
    Calls Try.prog 18 #[.int .i64 n] w fun e w' => e = .returned (.string ⟨(putL n).toArray⟩) ∧ ∃ o, w' = w.alloc o := by
  have hc := putL_string n h0 h1 w (0, 0)
  go_enter Try.func18, Try.ntmps18
  go_wp2
  go_ret
  exact ⟨rfl, _, rfl⟩

set_option maxHeartbeats 400000 in
theorem put_no (n : Int) (w : World) (h : n < 0 ∨ 2147483647 ≤ n) :
    Calls Try.prog 16 #[.int .i64 n] w fun e w' => e = .returned (.string ⟨#[]⟩) ∧ w = w' := by
  go_enter Try.func16, Try.ntmps16
  go_wp2_with (go_at_call 33; refine (in_no _ _ (by assumption)).mono ?_; rintro e w' ⟨rfl, rfl⟩)
  go_ret
  exact ⟨rfl, rfl⟩

set_option maxHeartbeats 400000 in
theorem put_yes (n : Int) (w : World) (h0 : 0 ≤ n) (h1 : n < 2147483647) :
    Calls Try.prog 16 #[.int .i64 n] w fun e w' => e = .returned (.string ⟨(putL n).toArray⟩) ∧ ∃ o, w' = w.alloc o := by
  have hc := putL_string n h0 h1 w (0, 0)
  have hmk : ∀ w : World, (Instr.makeSlice 29 (.int .i64 4) (.int .i64 4)).run Try.prog w = .ok (.slice (some ⟨w.heap.size, 0, none⟩) 4 4) (w.alloc (.cells #[.int .u8 0, .int .u8 0, .int .u8 0, .int .u8 0] 5)) := fun _ => by kernel_rfl
  go_enter Try.func16, Try.ntmps16
  go_wp2_with (go_at_call 33; refine (in_yes _ _ (by assumption) (by assumption)).mono ?_; rintro e w' ⟨rfl, rfl⟩)
  refine wp_loop_rounds 5 ?_
  rw [rounds_succ]
  go_wp2
  rw [rounds_succ]
  go_wp2
  rw [rounds_succ]
  go_wp2
  rw [rounds_succ]
  go_wp2
  rw [rounds_succ]
  go_wp2
  go_ret
  exact ⟨rfl, _, rfl⟩

end Go.Proofs.Ytgoeabkoljabkaa