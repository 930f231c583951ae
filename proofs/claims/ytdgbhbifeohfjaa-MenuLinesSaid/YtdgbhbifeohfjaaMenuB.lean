/- Walks of the menu's Key. -/
import Derived.Test.YtdgbhbifeohfjaaMenuA
namespace Go.Proofs.Ytdgbhbifeohfjaa
open Go.RowKit

set_option maxHeartbeats 400000 in
theorem key_digit (c : Nat) (w : World) (h0 : 48 ≤ c) (h1 : c ≤ 57) : Calls Try.prog 11 #[.int .u8 c] w fun e w' => e = .returned (.tuple #[.int .i64 (kA c), .int .i64 (kN c), .int .i64 (kL c)]) ∧ Below w.heap.size w w' := by
  go_enter Try.func11, Try.ntmps11
  go_wp2
  go_ret3
  exact ⟨by simp [kA, kN, kL, h0, h1], Below.refl _ _⟩

set_option maxHeartbeats 1000000 in
theorem key_other (c : Nat) (w : World) (hc : c ≤ 255) (h : c < 48 ∨ 57 < c) : Calls Try.prog 11 #[.int .u8 c] w fun e w' => e = .returned (.tuple #[.int .i64 (kA c), .int .i64 (kN c), .int .i64 (kL c)]) ∧ Below w.heap.size w w' := by
  have hq : ¬ (48 ≤ c ∧ c ≤ 57) := by omega
  have HQ := Lib.hid hq
  clear hq
  rcases h with h | h
  all_goals
    go_enter Try.func11, Try.ntmps11
    go_wp2_with (go_at_call 34; refine (items_any _).mono ?_; rintro e w' ⟨rfl, rfl⟩)
    go_loopw [18] (fun i wr => ∃ k : Nat, k ≤ 13 ∧ i = .int .i64 k ∧ Hid (∀ j, j < k → (mAt j).key ≠ c) ∧ Below (w.heap.size + 1) (w.alloc (.cells itemCells 65)) wr) (fun i _ => 13 - (intOf i).toNat)
    case atStart => exact ⟨0, by omega, rfl, fun j hj => absurd hj (by omega), Below.refl _ _⟩
    case round =>
      obtain ⟨k, hk, rfl, HN, hb⟩ := hrel
      have hsz : w.heap.size < wr.heap.size := by have := hb.size; simp at this; omega
      by_cases hlt : k < 13
      · obtain ⟨c0, c1, c2, c3⟩ := item_at w wr hb k hlt
        have hkb := mAt_key_bd k
        by_cases he : (mAt k).key = c
        · have HE := Lib.hid he
          have hd : (((mAt k).key : Int) == (c : Int)) = true := by simp; omega
          clear he
          go_wp2
          go_quiet (fail)
          go_wp2
          go_ret3
          refine ⟨?_, (Below.refl _ _).alloc (Nat.le_refl _) _ |>.trans (hb.mono (by omega)) |>.alloc (by omega) _ |> (drawnN · _)⟩
          have hf := mFind_at hlt HN.out HE.out
          simp [kA, kN, kL, HQ.out, hf]
        · have HE := Lib.hid he
          have hd : (((mAt k).key : Int) == (c : Int)) = false := by simp; omega
          clear he
          go_wp2
          refine ⟨⟨k + 1, by omega, by go_num, fun j hj => ?_, hb.alloc (by omega) _⟩, by simp [intOf]; omega⟩
          by_cases e : j = k
          · subst e; exact HE.out
          · exact HN.out j (by omega)
      · have e13 : k = 13 := by omega
        subst e13
        go_wp2
        go_ret3
        refine ⟨?_, (Below.refl _ _).alloc (Nat.le_refl _) _ |>.trans (hb.mono (by omega))⟩
        have hf := mFind_none HN.out
        simp [kA, kN, kL, HQ.out, hf]

end Go.Proofs.Ytdgbhbifeohfjaa
