/- The walk of SumTells. -/
import Derived.Test.YtgoeabkoljabkaaSumD
namespace Go.Proofs.Ytgoeabkoljabkaa
open Go.RowKit

theorem drawnN {B : Nat} {a w : World} (h : Below B a w) (n : Nat) : Below B a (w.drewN n) := ⟨h.os, h.tape, h.output, h.size, h.block⟩

/-- What 'Read' gives of any bytes. -/
def rdV (l : List UInt8) : Int := if l.length = 4 then readV (num4 l) else 0
def rdE (l : List UInt8) : Int := if l.length = 4 then readE (num4 l) else 5
theorem read_u (s : ByteArray) (w : World) :
    Calls Try.prog 14 #[.string s] w fun e w' => e = .returned (.tuple #[.int .i64 (rdV s.data.toList), .int .i64 (rdE s.data.toList)]) ∧ w = w' := by
  unfold rdV rdE
  rw [show s.data.toList.length = s.size from by simp]
  by_cases h : s.size = 4
  · rw [if_pos h, if_pos h]; exact read_any s w h
  · rw [if_neg h, if_neg h]; exact read_size s w h
theorem rread_u (s : ByteArray) (w : World) :
    Calls Try.prog 15 #[.string s] w fun e w' => e = .returned (.tuple #[.int .i64 (rdV s.data.toList), .int .i64 (rdE s.data.toList)]) ∧ Below w.heap.size w w' := by
  unfold rdV rdE
  rw [show s.data.toList.length = s.size from by simp]
  by_cases h : s.size = 4
  · rw [if_pos h, if_pos h]; exact (rread_any s w h).mono fun e w' ⟨he, n, hw⟩ => ⟨he, by subst hw; exact drawnN (Below.refl _ _) n⟩
  · rw [if_neg h, if_neg h]; exact (rread_size s w h).mono fun e w' ⟨he, hw⟩ => ⟨he, by subst hw; exact Below.refl _ _⟩
/-- What 'Put' gives of any number. -/
def putU (n : Int) : List UInt8 := if 0 ≤ n ∧ n < 2147483647 then putL n else []
theorem put_u (n : Int) (w : World) : Calls Try.prog 16 #[.int .i64 n] w fun e w' => e = .returned (.string ⟨(putU n).toArray⟩) ∧ Below w.heap.size w w' := by
  unfold putU
  by_cases h : 0 ≤ n ∧ n < 2147483647
  · rw [if_pos h]; exact (put_yes n w h.1 h.2).mono fun e w' ⟨he, o, hw⟩ => ⟨he, by subst hw; exact (Below.refl _ _).alloc (Nat.le_refl _) _⟩
  · rw [if_neg h]; exact (put_no n w (by omega)).mono fun e w' ⟨he, hw⟩ => ⟨he, by subst hw; exact Below.refl _ _⟩
theorem rput_u (n : Int) (w : World) : Calls Try.prog 18 #[.int .i64 n] w fun e w' => e = .returned (.string ⟨(putU n).toArray⟩) ∧ Below w.heap.size w w' := by
  unfold putU
  by_cases h : 0 ≤ n ∧ n < 2147483647
  · rw [if_pos h]; exact (rput_yes n w h.1 h.2).mono fun e w' ⟨he, o, hw⟩ => ⟨he, by subst hw; exact (Below.refl _ _).alloc (Nat.le_refl _) _⟩
  · rw [if_neg h]; exact (rput_no n w (by omega)).mono fun e w' ⟨he, hw⟩ => ⟨he, by subst hw; exact Below.refl _ _⟩
theorem fitsB_short {l : List UInt8} (h : l.length < 4) : fitsB l = false := by unfold fitsB; rw [decide_eq_false (by omega)]; rfl
theorem fits_u (s : ByteArray) (w : World) (hs : s.size ≤ maxLen) : Calls Try.prog 19 #[.string s] w fun e w' => e = .returned (.bool (fitsB s.data.toList)) ∧ Below w.heap.size w w' := by
  by_cases h : 4 ≤ s.size
  · exact fits_long s w hs h
  · rw [fitsB_short (by simpa using h)]; exact (fits_short s w (by omega)).mono fun e w' ⟨he, hw⟩ => ⟨he, by subst hw; exact Below.refl _ _⟩
theorem rfits_u (s : ByteArray) (w : World) (hs : s.size ≤ maxLen) : Calls Try.prog 20 #[.string s] w fun e w' => e = .returned (.bool (fitsB s.data.toList)) ∧ Below w.heap.size w w' := by
  by_cases h : 4 ≤ s.size
  · exact rfits_long s w hs h
  · rw [fitsB_short (by simpa using h)]; exact rfits_short s w (by omega)
theorem read_put (h : Int) (w : World) (hi : InP h) : Calls Try.prog 14 #[.string ⟨(putL h).toArray⟩] w fun e w' => e = .returned (.tuple #[.int .i64 h, .int .i64 0]) ∧ w = w' := by
  obtain ⟨h0, h1⟩ := hi
  have e : num4 (putL h) = h := num4_putL h h0 (by omega)
  exact read_is _ _ _ w rfl (by show readV (num4 (putL h)) = _; rw [e, readV_lt h1]) (by show readE (num4 (putL h)) = _; rw [e, readE_lt h1])
theorem put_b (n : Int) (w : World) (h : InP n) : Calls Try.prog 16 #[.int .i64 n] w fun e w' => e = .returned (.string ⟨(putL n).toArray⟩) ∧ Below w.heap.size w w' :=
  (put_yes n w h.1 h.2).mono fun e w' ⟨he, o, hw⟩ => ⟨he, by subst hw; exact (Below.refl _ _).alloc (Nat.le_refl _) _⟩
theorem fits_put (s : ByteArray) (w : World) (hs : s.size ≤ 2000) : Calls Try.prog 19 #[.string (s ++ ⟨(putL (sAll 0 s.data.toList)).toArray⟩)] w fun e w' => e = .returned (.bool true) ∧ Below w.heap.size w w' := by
  have e : fitsB (s ++ (⟨(putL (sAll 0 s.data.toList)).toArray⟩ : ByteArray)).data.toList = true := by
    rw [ByteArray.data_append, Array.toList_append]; exact fitsB_put _
  rw [← e]
  exact fits_u _ w (by rw [ByteArray.size_append]; show s.size + (putL (sAll 0 s.data.toList)).length ≤ _; rw [putL_length]; unfold maxLen; omega)

theorem size_le_trans {a b c : World} (h : Below a.heap.size a b) (k : Below b.heap.size b c) : Below a.heap.size a c := h.trans (k.mono h.size)

set_option maxHeartbeats 400000 in
theorem tells_big (s : ByteArray) (n : Int) (w : World) (h : 2000 < s.size) :
    Calls Try.prog 5 #[.string s, .int .i64 n] w fun e w' => e = .returned (.bool true) ∧ Below w.heap.size w w' := by
  go_enter Try.func5, Try.ntmps5
  go_wp2_with (go_at_call 10; refine (works7 _).mono ?_; rintro e w1 ⟨rfl, hb⟩)
  go_ret
  exact ⟨rfl, hb⟩

set_option maxHeartbeats 400000 in
theorem tells_small (s : ByteArray) (n : Int) (w : World) (h : s.size ≤ 2000) :
    Calls Try.prog 5 #[.string s, .int .i64 n] w fun e w' => e = .returned (.bool true) ∧ Below w.heap.size w w' := by
  have hs : s.size ≤ maxLen := by unfold maxLen; omega
  have hi := sAll_0 s.data.toList
  obtain ⟨i0, i1⟩ := sAll_0 s.data.toList
  have hpl : (putL (sAll 0 s.data.toList)).length ≤ 4 := Nat.le_refl 4
  go_enter Try.func5, Try.ntmps5
  go_wp2_with fail
  refine (read_u _ _).mono ?_; rintro e w' ⟨rfl, rfl⟩
  go_wp2_with fail
  refine (rread_u _ _).mono ?_; rintro e w1 ⟨rfl, hb1⟩
  go_wp2_with fail
  refine (of_any _ _ hs).mono ?_; rintro e w' ⟨rfl, rfl⟩
  go_wp2_with fail
  refine (put_b _ _ hi).mono ?_; rintro e w2 ⟨rfl, hb2⟩
  go_wp2_with fail
  refine (read_put _ _ hi).mono ?_; rintro e w' ⟨rfl, rfl⟩
  go_wp2_with fail
  refine (rof_any _ _ hs).mono ?_; rintro e w' ⟨rfl, rfl⟩
  go_wp2_with fail
  refine (put_u _ _).mono ?_; rintro e w3 ⟨rfl, hb3⟩
  go_wp2_with fail
  refine (rput_u _ _).mono ?_; rintro e w4 ⟨rfl, hb4⟩
  go_wp2_with fail
  refine (fits_u _ _ hs).mono ?_; rintro e w5 ⟨rfl, hb5⟩
  go_wp2_with fail
  refine (rfits_u _ _ hs).mono ?_; rintro e w6 ⟨rfl, hb6⟩
  go_wp2_with fail
  refine (put_b _ _ hi).mono ?_; rintro e w7 ⟨rfl, hb7⟩
  go_wp2_with fail
  refine (fits_put _ _ h).mono ?_; rintro e w8 ⟨rfl, hb8⟩
  go_wp2_with fail
  refine (works7 _).mono ?_; rintro e w9 ⟨rfl, hb9⟩
  go_wp2_with fail
  go_ret
  exact ⟨rfl, size_le_trans hb1 (size_le_trans hb2 (size_le_trans hb3 (size_le_trans hb4 (size_le_trans hb5 (size_le_trans hb6 (size_le_trans hb7 (size_le_trans hb8 hb9)))))))⟩

theorem tells_all (s : ByteArray) (n : Int) (w : World) : Calls Try.prog 5 #[.string s, .int .i64 n] w fun e w' => e = .returned (.bool true) ∧ Below w.heap.size w w' := by
  by_cases h : s.size ≤ 2000
  · exact tells_small s n w h
  · exact tells_big s n w (by omega)

end Go.Proofs.Ytgoeabkoljabkaa
