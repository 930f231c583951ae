/- The walks of Same on rows of lines, and of works. -/
import Derived.Test.YtdgbhbifeohfjaaTextF
namespace Go.Proofs.Ytdgbhbifeohfjaa
open Go.RowKit

/-- A slice that reads as these lines, from whatever place in its block. -/
def RdL (w : World) (A : Option Addr) (ls : List (List UInt8 × Int)) : Prop :=
  ∀ j, j < ls.length → ∃ g o, A = some ⟨g, o, none⟩ ∧ g < w.heap.size ∧ ∀ i, i < ls.length * 2 → w.cell? ⟨g, o + i, none⟩ = (linesV ls)[i]?
theorem rdl_of {w : World} {base n : Nat} {v : Value} {ls : List (List UInt8 × Int)} (hn : ls.length = n) (h : w.ownsRow base 44 2 v n (linesV ls)) : ∃ A ca, v = .slice A n ca ∧ n ≤ maxLen ∧ n ≤ ca ∧ RdL w A ls := by
  subst hn
  obtain ⟨A, ca, rfl, hm, hc, _, ha⟩ := own_form h
  refine ⟨A, ca, rfl, hm, hc, fun j hj => ?_⟩
  obtain ⟨g, rfl, _, hg, hcs⟩ := ha j hj (by omega)
  exact ⟨g, 0, rfl, hg, fun i hi => by rw [Nat.zero_add]; exact hcs i hi⟩
theorem rdl_below {w w' : World} {A : Option Addr} {ls : List (List UInt8 × Int)} (h : RdL w A ls) (hb : Below w.heap.size w w') : RdL w' A ls := fun j hj => by
  obtain ⟨g, o, rfl, hg, hc⟩ := h j hj
  exact ⟨g, o, rfl, Nat.lt_of_lt_of_le hg hb.size, fun i hi => (hb.cell (p := ⟨g, o + i, none⟩) hg).trans (hc i hi)⟩

set_option maxHeartbeats 1000000 in
theorem same_rd (A B : Option Addr) (n ca cb : Nat) (ls : List (List UInt8 × Int)) (w : World) (hn : ls.length = n) (hm : n ≤ maxLen) (h1 : RdL w A ls) (h2 : RdL w B ls) :
    Calls Try.prog 23 #[.slice A n ca, .slice B n cb] w fun e w' => e = .returned (.bool true) ∧ Below w.heap.size w w' := by
  subst hn
  have HA := Lib.hid h1
  have HB := Lib.hid h2
  clear h1 h2
  unfold maxLen at hm
  have hne : ((ls.length : Int) != (ls.length : Int)) = false := by simp
  go_enter Try.func23, Try.ntmps23
  go_wp2
  go_loopw [5] (fun i wr => ∃ k : Nat, k ≤ ls.length ∧ i = .int .i64 k ∧ ∃ n, wr = w.drewN n) (fun i _ => ls.length - (intOf i).toNat)
  case atStart => exact ⟨0, by omega, rfl, 0, rfl⟩
  case round =>
    obtain ⟨k, hk, rfl, n, rfl⟩ := hrel
    by_cases hlt : k < ls.length
    · obtain ⟨g1, o1, rfl, _, c1⟩ := HA.out k hlt
      obtain ⟨g2, o2, rfl, _, c2⟩ := HB.out k hlt
      obtain ⟨l1, l2⟩ := linesV_at ls k hlt
      have d1 := (c1 (k * 2) (by omega)).trans l1
      have d2 := (c2 (k * 2) (by omega)).trans l1
      have d3 := (c1 (k * 2 + 1) (by omega)).trans l2
      have d4 := (c2 (k * 2 + 1) (by omega)).trans l2
      rw [← Nat.add_assoc] at d3 d4
      clear c1 c2 HA HB l1 l2
      generalize ls[k] = l at *
      have g0 : (0 : Int) ≤ (k : Int) := by omega
      have g3 : (k : Int) < (ls.length : Int) := by omega
      go_wp2
      go_quiet (fail)
      go_wp2
      exact ⟨⟨k + 1, by omega, by go_num, _, rfl⟩, by simp [intOf]; omega⟩
    · go_wp2
      go_ret
      exact ⟨rfl, drawnN (Below.refl _ _) n⟩

theorem same24 (b1 b2 n : Nat) (v1 v2 : Value) (ls : List (List UInt8 × Int)) (w : World) (hn : ls.length = n) (h1 : w.ownsRow b1 44 2 v1 n (linesV ls)) (h2 : w.ownsRow b2 44 2 v2 n (linesV ls)) :
    Calls Try.prog 23 #[v1, v2] w fun e w' => e = .returned (.bool true) ∧ Below w.heap.size w w' := by
  obtain ⟨A, ca, rfl, hm, _, ha⟩ := rdl_of hn h1
  obtain ⟨B, cb, rfl, _, _, hb⟩ := rdl_of hn h2
  exact same_rd A B n ca cb ls w hn hm ha hb

def lit24 : ByteArray := ⟨#[99, 97, 108, 108, 13, 10, 49, 50, 51, 52, 53, 13, 10, 49, 50, 51, 52, 53, 54, 10, 97, 0, 10, 97, 98]⟩
def L4 : List (List UInt8 × Int) := [([99, 97, 108, 108], 0), ([49, 50, 51, 52, 53], 0), ([], 5), ([], 3)]
theorem fd_lit : fd 5 [] lit24.data.toList = (L4, [97, 98]) := by decide +kernel

theorem new5 (w : World) : Calls Try.prog 20 #[.int .i64 5] w fun e w' => e = .returned (.tuple #[.pointer (some ⟨w.heap.size, 0, none⟩), .int .i64 0]) ∧ w' = w.alloc (.cells #[.slice none 0 0, .bool false, .int .i64 5] 72) := new_yes 5 w (by omega) (by omega)

set_option maxRecDepth 100000 in
set_option maxHeartbeats 1000000 in
theorem works24 (w : World) : Calls Try.prog 19 #[] w fun e w' => e = .returned (.bool true) ∧ Below w.heap.size w w' := by
  go_enter Try.func19, Try.ntmps19
  go_wp2_with fail
  refine (new5 _).mono ?_; rintro e w' ⟨rfl, rfl⟩
  have hf0 := new_fr 5 w
  have hbl := (Below.refl w.heap.size w).alloc (Nat.le_refl _) (.cells #[.slice none 0 0, .bool false, .int .i64 5] 72)
  have hsz : w.heap.size < (w.alloc (.cells #[.slice none 0 0, .bool false, .int .i64 5] 72)).heap.size := by simp
  have hf0' : FrAt (w.alloc (.cells #[.slice none 0 0, .bool false, .int .i64 5] 72)) w.heap.size w.heap.size (.slice none 0 0) 5 [] := hf0
  clear hf0
  generalize w.alloc (.cells #[.slice none 0 0, .bool false, .int .i64 5] 72) = w1 at *
  go_wp2_with fail
  refine (new_no 0 _ (by omega)).mono ?_; rintro e w' ⟨rfl, rfl⟩
  go_wp2_with fail
  refine (feed_any w.heap.size w.heap.size 5 (.slice none 0 0) [] lit24 _ (by omega) (by omega) hf0' (by omega) (by decide)).mono ?_
  rintro e w2 ⟨v, bv2, rfl, hown, hfr, hkept, _⟩
  rw [fd_lit] at hown hfr
  have hb2 := hbl.trans (hkept.below (B := w.heap.size) (fun i hx => hx.elim (fun e => by omega) (fun h => by simp [Value.ownBlock] at h)) (by omega))
  clear hf0' hkept hbl hsz
  go_wp2_with fail
  refine (same24 w1.heap.size w2.heap.size 4 v _ L4 _ rfl (hown.alloc _) (World.ownsRow_lit w2 _ 4 (Nat.le_refl _) (by decide) rfl)).mono ?_
  rintro e w3 ⟨rfl, hb3⟩
  have hfr3 := fr_below (fr_alloc hfr _) hb3
  have hb4 := (hb2.alloc hb2.size _).trans (hb3.mono (by have := hb2.size; simp; omega))
  clear hfr hown hb2 hb3
  go_wp2_with fail
  refine (left_any _ _ 5 bv2 [97, 98] _ hfr3).mono ?_
  rintro e w' ⟨rfl, rfl⟩
  go_wp2_with fail
  go_ret
  exact ⟨rfl, hb4⟩

set_option maxHeartbeats 1000000 in
theorem none24 (s : ByteArray) (w : World) : Calls Try.prog 7 #[.string s] w fun e w' => e = .returned (.bool true) ∧ Below w.heap.size w w' := by
  go_enter Try.func7, Try.ntmps7
  go_wp2_with fail
  refine (feed_none s _).mono ?_; rintro e w' ⟨rfl, rfl⟩
  go_wp2_with fail
  refine (left_none _).mono ?_; rintro e w' ⟨rfl, rfl⟩
  go_wp2_with fail
  refine (works24 _).mono ?_; rintro e w1 ⟨rfl, hb⟩
  go_wp2_with fail
  go_ret
  exact ⟨rfl, hb⟩

end Go.Proofs.Ytdgbhbifeohfjaa
