/- The walks of works and of the law EscapeNone. -/
import Derived.Test.YtdgbhbifeohfjaaEscF
namespace Go.Proofs.Ytdgbhbifeohfjaa
open Go.RowKit

def lit26 : ByteArray := ⟨#[97, 98, 5, 99, 63, 100, 5, 5, 120, 5]⟩
def L26 : List Pc := [.data [97, 98], .press 63, .data [100, 5, 5, 120]]
theorem fed_lit : fed 0 lit26.data.toList = L26 ∧ last 0 lit26.data.toList = 1 ∧ fed 1 [99] = [] ∧ last 1 [99] = 2 := by decide +kernel
theorem ge_below {w w1 w2 : World} {g : Nat} (hb : Below w.heap.size w w1) (hk : Kept w1 w2 (fun i => i = g)) (hg : w.heap.size ≤ g) : Below w.heap.size w w2 :=
  hb.trans (hk.below (fun i h => by subst h; exact hg) hb.size)
theorem own_kept {w w1 : World} {g base : Nat} {e : TypeId} {size n : Nat} {v : Value} {xs : List Value} (h : w.ownsRow base e size v n xs) (hk : Kept w w1 (fun i => i = g)) (hg : g < base) : w1.ownsRow base e size v n xs :=
  hk.own h (fun i hi hx => by have := (h.lt i hi).1; omega)

theorem feed26_none (s : ByteArray) (w : World) : Calls Try.prog 27 #[.pointer none, .string s] w fun e w' => e = .returned (.slice none 0 0) ∧ w = w' := by
  go_enter Try.func27, Try.ntmps27
  go_wp2
  go_ret
  exact ⟨rfl, rfl⟩

set_option maxRecDepth 100000 in
set_option maxHeartbeats 2000000 in
theorem works26 (w : World) : Calls Try.prog 26 #[] w fun e w' => e = .returned (.bool true) ∧ Below w.heap.size w w' := by
  obtain ⟨f1, f2, f3, f4⟩ := fed_lit
  go_enter Try.func26, Try.ntmps26
  go_wp2_with fail
  have hg0 := Boxed.new w 49 (.int .i64 0)
  have hb0 := (Below.refl w.heap.size w).alloc (Nat.le_refl _) (.cells #[.int .i64 0] 49)
  have hs0 : w.heap.size < (w.alloc (.cells #[.int .i64 0] 49)).heap.size := by simp
  generalize w.alloc (.cells #[.int .i64 0] 49) = w0 at *
  refine (feed_any w.heap.size 0 lit26 w0 (by omega) hg0 (by decide)).mono ?_
  rintro e w1 ⟨a, rfl, ra, hg1, hk1⟩
  rw [f1] at ra
  rw [f2] at hg1
  have hb1 := ge_below hb0 hk1 (Nat.le_refl _)
  have hs1 := hk1.size
  clear hg0 hb0 hk1 f1 f2
  go_wp2_with fail
  refine (waits_any w.heap.size _ w1 hg1 1 rfl).mono ?_; rintro e w' ⟨rfl, rfl⟩
  go_wp2_with fail
  refine (feed_any w.heap.size 1 ⟨#[99]⟩ w1 (by omega) hg1 (by decide)).mono ?_
  rintro e w2 ⟨b, rfl, rb, hg2, hk2⟩
  rw [show (⟨#[99]⟩ : ByteArray).data.toList = [99] from rfl] at rb hg2
  rw [f3] at rb
  rw [f4] at hg2
  have ra2 := own_kept ra hk2 hs0
  have hb2 := ge_below hb1 hk2 (Nat.le_refl _)
  have hs2 := hk2.size
  obtain ⟨A, cap, rfl, _⟩ := own_form rb
  clear hg1 hb1 hk2 f3 f4 ra rb
  go_wp2_with fail
  refine (waits_any w.heap.size _ w2 hg2 2 rfl).mono ?_; rintro e w' ⟨rfl, rfl⟩
  go_wp2_with fail
  refine (flush_any w.heap.size 2 w2 (by omega) hg2).mono ?_
  rintro e w3 ⟨rfl, hg3, hk3⟩
  have ra3 := own_kept ra2 hk3 hs0
  have hb3 := ge_below hb2 hk3 (Nat.le_refl _)
  clear hg2 hb2 hk3 ra2
  go_wp2_with fail
  refine (sameP w0.heap.size w3.heap.size 3 a _ L26 _ rfl (ra3.alloc _) (World.ownsRow_lit w3 _ 3 (Nat.le_refl _) (by decide) rfl)).mono ?_
  rintro e w4 ⟨rfl, hb4⟩
  have hg4 : Boxed w4 w.heap.size 49 (.int .i64 0) := boxed_below (hg3.alloc _) hb4 (by have := hg3.lt; simp; omega)
  have hb5 := (hb3.alloc hb3.size _).trans (hb4.mono (by have := hb3.size; simp; omega))
  clear ra3 hg3 hb3 hb4
  go_wp2_with fail
  refine (waits_any w.heap.size _ w4 hg4 0 rfl).mono ?_; rintro e w' ⟨rfl, rfl⟩
  go_wp2_with fail
  refine (flush_any w.heap.size 0 w4 (by omega) hg4).mono ?_
  rintro e w5 ⟨rfl, _, hk5⟩
  have hb6 := ge_below hb5 hk5 (Nat.le_refl _)
  go_wp2_with fail
  go_ret
  exact ⟨rfl, hb6⟩

set_option maxHeartbeats 1000000 in
theorem none26 (s : ByteArray) (w : World) : Calls Try.prog 10 #[.string s] w fun e w' => e = .returned (.bool true) ∧ Below w.heap.size w w' := by
  go_enter Try.func10, Try.ntmps10
  go_wp2_with fail
  refine (feed26_none s _).mono ?_; rintro e w' ⟨rfl, rfl⟩
  go_wp2_with fail
  refine (waits_none _).mono ?_; rintro e w' ⟨rfl, rfl⟩
  go_wp2_with fail
  refine (flush_none _).mono ?_; rintro e w' ⟨rfl, rfl⟩
  go_wp2_with fail
  refine (works26 _).mono ?_; rintro e w1 ⟨rfl, hb⟩
  go_wp2_with fail
  go_ret
  exact ⟨rfl, hb⟩

end Go.Proofs.Ytdgbhbifeohfjaa
