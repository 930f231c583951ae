/- The walk of the law RecordPuts. -/
import Derived.Test.YtgoeabkoljabkaaRecF
namespace Go.Proofs.Ytgoeabkoljabkaa
open Go.RowKit
attribute [local go_sem ↓] Go.wp_at_zero Go.wp_at_succ

theorem putB_size {k a : Int} {s : ByteArray} (h : chk k a s.size = 0) : (putB k a s).size = 14 + s.size := by
  unfold putB putI
  rw [if_pos (by rw [show (k, a, s.data.toList).2.2.length = s.size from by simp]; exact h)]
  show (fullL (k, a, s.data.toList)).toArray.size = _
  rw [List.size_toArray, fullL_len]
  simp

set_option maxHeartbeats 400000 in
theorem puts_big (k a : Int) (s : ByteArray) (w : World) (h : (300 < s.size ∧ s.size ≤ 4096) ∨ 4200 < s.size) :
    Calls Try.prog 8 #[itV k a s] w fun e w' => e = .returned (.bool true) ∧ Below w.heap.size w w' := by
  unfold itV
  have hb0 := (Below.refl w.heap.size w).alloc (Nat.le_refl _) (.cells #[.int .i64 k, .int .i64 a, .string s] 36)
  rcases h with ⟨h1, h2⟩ | h3
  · go_enter Try.func8, Try.ntmps8
    go_wp2_with (go_at_call 21; refine (works8 _).mono ?_; rintro e w1 ⟨rfl, hb⟩)
    go_ret
    exact ⟨rfl, below_then hb0 hb⟩
  · have h1 : 300 < s.size := by omega
    have h2 : ¬ s.size ≤ 4096 := by omega
    go_enter Try.func8, Try.ntmps8
    go_wp2_with (go_at_call 21; refine (works8 _).mono ?_; rintro e w1 ⟨rfl, hb⟩)
    go_ret
    exact ⟨rfl, below_then hb0 hb⟩

set_option maxHeartbeats 1000000 in
theorem puts_small (k a : Int) (s : ByteArray) (w : World) (h : s.size ≤ 300 ∨ (4096 < s.size ∧ s.size ≤ 4200)) :
    Calls Try.prog 8 #[itV k a s] w fun e w' => e = .returned (.bool true) ∧ Below w.heap.size w w' := by
  unfold itV
  have hx : Whole (w.alloc (.cells #[.int .i64 k, .int .i64 a, .string s] 36)) w.heap.size 36 #[.int .i64 k, .int .i64 a, .string s] := Whole.new w 36 _
  have hb0 := (Below.refl w.heap.size w).alloc (Nat.le_refl _) (.cells #[.int .i64 k, .int .i64 a, .string s] 36)
  have h3 : s.size ≤ 4200 := by omega
  go_enter Try.func8, Try.ntmps8
  go_wp2_with fail
  all_goals
    generalize w.alloc (.cells #[.int .i64 k, .int .i64 a, .string s] 36) = w0 at *
    refine (put_it k a s _).mono ?_; rintro e w1 ⟨rfl, hb1⟩
    have hx1 := hx.below hb1 hx.lt
    have hbb1 := below_then hb0 hb1
    clear hx hb0 hb1
    obtain ⟨d0, d1, d2⟩ := hx1.three
    go_wp2_with fail
    refine (rput_it k a s _).mono ?_; rintro e w2 ⟨rfl, hb2⟩
    have hx2 := hx1.below hb2 hx1.lt
    have hbb2 := below_then hbb1 hb2
    clear hx1 hbb1 hb2 d0 d1 d2
    obtain ⟨d0, d1, d2⟩ := hx2.three
    have hpc : putC k a s = chk k a s.size := rfl
    rw [hpc]
    clear hpc
    go_wp2_with fail
    refine (check_any k a s _).mono ?_; rintro e w3 ⟨rfl, hb3⟩
    have hx3 := hx2.below hb3 hx2.lt
    have hbb3 := below_then hbb2 hb3
    clear hx2 hbb2 hb3 d0 d1 d2
    obtain ⟨d0, d1, d2⟩ := hx3.three
    by_cases hc : chk k a s.size = 0
    · have hsz := putB_size hc
      have hcb : (chk k a s.size != 0) = false := by simp [hc]
      clear hc
      go_wp2_with fail
      refine (len_any k a s _ (by omega)).mono ?_; rintro e w4 ⟨rfl, hb4⟩
      have hbb4 := below_then hbb3 hb4
      clear hx3 hbb3 hb4 d0 d1 d2
      have hl : (14 + (s.size : Int) == ((putB k a s).size : Int)) = true := by rw [hsz]; simp
      clear hsz
      go_wp2_with fail
      refine (works8 _).mono ?_; rintro e w5 ⟨rfl, hb5⟩
      go_wp2_with fail
      go_ret
      exact ⟨rfl, below_then hbb4 hb5⟩
    · have hcb : (chk k a s.size != 0) = true := by simpa using hc
      clear hc
      go_wp2_with fail
      refine (works8 _).mono ?_; rintro e w5 ⟨rfl, hb5⟩
      go_wp2_with fail
      go_ret
      exact ⟨rfl, below_then hbb3 hb5⟩

theorem puts_all (k a : Int) (s : ByteArray) (w : World) :
    Calls Try.prog 8 #[itV k a s] w fun e w' => e = .returned (.bool true) ∧ Below w.heap.size w w' := by
  by_cases h : (300 < s.size ∧ s.size ≤ 4096) ∨ 4200 < s.size
  · exact puts_big k a s w h
  · exact puts_small k a s w (by omega)

end Go.Proofs.Ytgoeabkoljabkaa
