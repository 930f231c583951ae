/- The walk of 'works', and of the laws RecordReads and RecordPuts. -/
import Derived.Test.YtgoeabkoljabkaaRecE
namespace Go.Proofs.Ytgoeabkoljabkaa
open Go.RowKit
attribute [local go_sem ↓] Go.wp_at_zero Go.wp_at_succ

theorem put_is (k a : Int) (s S : ByteArray) (c : Int) (w : World) (h : putB k a s = S) (h2 : putC k a s = c) :
    Calls Try.prog 27 #[itV k a s] w fun e w' => e = .returned (.tuple #[.string S, .int .i64 c]) ∧ Below w.heap.size w w' := by subst h; subst h2; exact put_it k a s w
theorem read_is_ (s : ByteArray) (x : It) (n : Nat) (c : Int) (w : World) (hs : s.size ≤ 10000) (hr : readL s.data.toList = (x, n, c)) :
    Calls Try.prog 22 #[.string s] w fun e w' => e = .returned (.tuple #[.agg #[.int .i64 x.1, .int .i64 x.2.1, .string ⟨x.2.2.toArray⟩], .int .i64 (n : Int), .int .i64 c]) ∧ Below w.heap.size w w' := by
  have := read_it s w hs
  unfold ReadPost at this
  rw [hr] at this
  exact this
theorem scan_is (s : ByteArray) (r : List It × Nat) (w : World) (hs : s.size ≤ 10000) (hr : scanS s = r) : Calls Try.prog 24 #[.string s] w fun e w' => ScanPost r w e w' := by subst hr; exact scan_it s w hs

abbrev sW : ByteArray := ⟨#[87, 1, 0, 0, 0, 0, 1, 2, 0, 2, 104, 105, 108, 103, 124, 28]⟩
abbrev iW : It := (1, 258, [104, 105])

set_option maxRecDepth 10000 in
set_option maxHeartbeats 1000000 in
theorem works8 (w : World) : Calls Try.prog 21 #[] w fun e w' => e = .returned (.bool true) ∧ Below w.heap.size w w' := by
  go_enter Try.func21, Try.ntmps21
  go_wp2_with fail
  refine (put_is 1 258 ⟨#[104, 105]⟩ sW 0 _ (by decide +kernel) (by decide)).mono ?_; rintro e w1 ⟨rfl, hb1⟩
  go_wp2_with fail
  refine (read_is_ _ iW 16 0 _ (by decide) (by decide +kernel)).mono ?_; rintro e w2 ⟨rfl, hb2⟩
  have hx : Whole (w2.alloc (.cells #[.int .i64 1, .int .i64 258, .string ⟨#[104, 105]⟩] 36)) w2.heap.size 36 #[.int .i64 1, .int .i64 258, .string ⟨#[104, 105]⟩] := Whole.new w2 36 _
  have hbb := (below_then hb1 hb2).alloc (Nat.le_trans hb1.size hb2.size) (.cells #[.int .i64 1, .int .i64 258, .string ⟨#[104, 105]⟩] 36)
  clear hb1 hb2
  go_wp2_with fail
  generalize w2.alloc (.cells #[.int .i64 1, .int .i64 258, .string ⟨#[104, 105]⟩] 36) = w3 at *
  refine (read_is_ _ (0, 0, []) 0 13 _ (by decide) (by decide +kernel)).mono ?_; rintro e w4 ⟨rfl, hb4⟩
  have hx4 := (hx.below hb4 hx.lt).alloc (.cells #[.int .i64 0, .int .i64 0, .string ⟨#[]⟩] 36)
  have hbb4 := (below_then hbb hb4).alloc (Nat.le_trans hbb.size hb4.size) (.cells #[.int .i64 0, .int .i64 0, .string ⟨#[]⟩] 36)
  clear hx hbb hb4
  go_wp2_with fail
  generalize w4.alloc (.cells #[.int .i64 0, .int .i64 0, .string ⟨#[]⟩] 36) = w5 at *
  refine (read_is_ _ (0, 0, []) 0 4 _ (by decide) (by decide +kernel)).mono ?_; rintro e w6 ⟨rfl, hb6⟩
  have hx6 := (hx4.below hb6 hx4.lt).alloc (.cells #[.int .i64 0, .int .i64 0, .string ⟨#[]⟩] 36)
  have hbb6 := (below_then hbb4 hb6).alloc (Nat.le_trans hbb4.size hb6.size) (.cells #[.int .i64 0, .int .i64 0, .string ⟨#[]⟩] 36)
  clear hx4 hbb4 hb6
  go_wp2_with fail
  generalize w6.alloc (.cells #[.int .i64 0, .int .i64 0, .string ⟨#[]⟩] 36) = w7 at *
  refine (read_is_ _ (0, 0, []) 0 3 _ (by decide) (by decide +kernel)).mono ?_; rintro e w8 ⟨rfl, hb8⟩
  have hx8 := (hx6.below hb8 hx6.lt).alloc (.cells #[.int .i64 0, .int .i64 0, .string ⟨#[]⟩] 36)
  have hbb8 := (below_then hbb6 hb8).alloc (Nat.le_trans hbb6.size hb8.size) (.cells #[.int .i64 0, .int .i64 0, .string ⟨#[]⟩] 36)
  clear hx6 hbb6 hb8
  go_wp2_with fail
  generalize w8.alloc (.cells #[.int .i64 0, .int .i64 0, .string ⟨#[]⟩] 36) = w9 at *
  refine (scan_is _ ([iW, iW], 32) _ (by decide) (by decide +kernel)).mono ?_; rintro e w10 ⟨v, rfl, hown, hb10⟩
  obtain ⟨A, ca, rfl, _, _, _, _⟩ := own_form hown
  have hx10 := hx8.below hb10 hx8.lt
  have hbb10 := below_then hbb8 hb10
  clear hx8 hbb8 hb10 hown
  go_wp2_with fail
  refine (put_is 16 0 ⟨#[]⟩ ⟨#[]⟩ 1 _ (by decide +kernel) (by decide)).mono ?_; rintro e w11 ⟨rfl, hb11⟩
  have hx11 := hx10.below hb11 hx10.lt
  have hbb11 := below_then hbb10 hb11
  clear hx10 hbb10 hb11
  obtain ⟨d0, d1, d2⟩ := hx11.three
  have h10 : (sW.extract 0 10).toList = [87, 1, 0, 0, 0, 0, 1, 2, 0, 2] := by decide +kernel
  go_wp2_with fail
  go_ret
  exact ⟨rfl, hbb11⟩

theorem rread_is_ (s : ByteArray) (x : It) (n : Nat) (c : Int) (w : World) (hs : s.size ≤ 10000) (hr : readL s.data.toList = (x, n, c)) :
    Calls Try.prog 23 #[.string s] w fun e w' => e = .returned (.tuple #[.agg #[.int .i64 x.1, .int .i64 x.2.1, .string ⟨x.2.2.toArray⟩], .int .i64 (n : Int), .int .i64 c]) ∧ Below w.heap.size w w' := by
  have := rread_it s w hs
  unfold ReadPost at this
  rw [hr] at this
  exact this

set_option maxHeartbeats 400000 in
theorem reads_big (s : ByteArray) (w : World) (h : 3000 < s.size) :
    Calls Try.prog 6 #[.string s] w fun e w' => e = .returned (.bool true) ∧ Below w.heap.size w w' := by
  go_enter Try.func6, Try.ntmps6
  go_wp2_with (go_at_call 21; refine (works8 _).mono ?_; rintro e w1 ⟨rfl, hb⟩)
  go_ret
  exact ⟨rfl, hb⟩

set_option maxHeartbeats 1000000 in
theorem reads_small (s : ByteArray) (w : World) (h : s.size ≤ 3000) :
    Calls Try.prog 6 #[.string s] w fun e w' => e = .returned (.bool true) ∧ Below w.heap.size w w' := by
  obtain ⟨⟨k, a, b⟩, n, c, hr⟩ : ∃ x n c, readL s.data.toList = (x, n, c) := ⟨_, _, _, rfl⟩
  have HR := Lib.hid hr
  clear hr
  go_enter Try.func6, Try.ntmps6
  go_wp2_with fail
  refine (read_is_ s (k, a, b) n c _ (by omega) HR.out).mono ?_; rintro e w1 ⟨rfl, hb1⟩
  have hx1 : Whole (w1.alloc (.cells #[.int .i64 k, .int .i64 a, .string ⟨b.toArray⟩] 36)) w1.heap.size 36 #[.int .i64 k, .int .i64 a, .string ⟨b.toArray⟩] := Whole.new w1 36 _
  have hbb1 := hb1.alloc hb1.size (.cells #[.int .i64 k, .int .i64 a, .string ⟨b.toArray⟩] 36)
  clear hb1
  go_wp2_with fail
  generalize w1.alloc (.cells #[.int .i64 k, .int .i64 a, .string ⟨b.toArray⟩] 36) = w2 at *
  refine (rread_is_ s (k, a, b) n c _ (by omega) HR.out).mono ?_; rintro e w3 ⟨rfl, hb3⟩
  have hx3 := (hx1.below hb3 hx1.lt).alloc (.cells #[.int .i64 k, .int .i64 a, .string ⟨b.toArray⟩] 36)
  have hy3 : Whole (w3.alloc (.cells #[.int .i64 k, .int .i64 a, .string ⟨b.toArray⟩] 36)) w3.heap.size 36 #[.int .i64 k, .int .i64 a, .string ⟨b.toArray⟩] := Whole.new w3 36 _
  have hbb3 := (below_then hbb1 hb3).alloc (Nat.le_trans hbb1.size hb3.size) (.cells #[.int .i64 k, .int .i64 a, .string ⟨b.toArray⟩] 36)
  clear hx1 hbb1 hb3
  go_wp2_with fail
  generalize w3.alloc (.cells #[.int .i64 k, .int .i64 a, .string ⟨b.toArray⟩] 36) = w4 at *
  refine (scan_it s _ (by omega)).mono ?_; rintro e w5 ⟨v5, rfl, ho5, hb5⟩
  have hx5 := hx3.below hb5 hx3.lt
  have hy5 := hy3.below hb5 hy3.lt
  have hbb5 := below_then hbb3 hb5
  clear hx3 hy3 hbb3 hb5
  go_wp2_with fail
  refine (rscan_it s _ (by omega)).mono ?_; rintro e w6 ⟨v6, rfl, ho6, hb6⟩
  have hx6 := hx5.below hb6 hx5.lt
  have hy6 := hy5.below hb6 hy5.lt
  have hbb6 := below_then hbb5 hb6
  have ho5' := own_below ho5 hb6
  clear hx5 hy5 hbb5 hb6 ho5
  obtain ⟨d0, d1, d2⟩ := hx6.three
  obtain ⟨e0, e1, e2⟩ := hy6.three
  go_wp2_with fail
  refine (same_it _ _ (scanS s).1.length v5 v6 (scanS s).1 _ rfl ho5' ho6).mono ?_; rintro e w7 ⟨rfl, hb7⟩
  have hbb7 := below_then hbb6 hb7
  clear hbb6 hb7 hx6 hy6 d0 d1 d2 e0 e1 e2 ho5' ho6
  go_wp2_with fail
  refine (works8 _).mono ?_; rintro e w8 ⟨rfl, hb8⟩
  go_wp2_with fail
  go_ret
  exact ⟨rfl, below_then hbb7 hb8⟩

theorem reads_all (s : ByteArray) (w : World) : Calls Try.prog 6 #[.string s] w fun e w' => e = .returned (.bool true) ∧ Below w.heap.size w w' := by
  by_cases h : s.size ≤ 3000
  · exact reads_small s w h
  · exact reads_big s w (by omega)

end Go.Proofs.Ytgoeabkoljabkaa
