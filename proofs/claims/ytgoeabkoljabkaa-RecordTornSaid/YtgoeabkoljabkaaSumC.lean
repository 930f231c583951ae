/- Walks of Fits, of both. -/
import Derived.Test.YtgoeabkoljabkaaSumB
import Derived.Deep.RegionHeld3
import Derived.Deep.DrawnRows
import Derived.Lib.Strings
import Derived.Lib.IndexBytes
namespace Go.Proofs.Ytgoeabkoljabkaa
open Go.RowKit
attribute [local go_sem ↓] Go.wp_at_zero Go.wp_at_succ

theorem put_any (n : Int) (w : World) (h : InP n) : Calls Try.prog 16 #[.int .i64 n] w fun e w' => e = .returned (.string ⟨(putL n).toArray⟩) ∧ ∃ o, w' = w.alloc o := put_yes n w h.1 h.2
theorem rput_any (n : Int) (w : World) (h : InP n) : Calls Try.prog 18 #[.int .i64 n] w fun e w' => e = .returned (.string ⟨(putL n).toArray⟩) ∧ ∃ o, w' = w.alloc o := rput_yes n w h.1 h.2

theorem ret_bool {a b : Bool} (h : a = b) : Ending.returned (.bool a) = .returned (.bool b) := by rw [h]
theorem toList_from (s : ByteArray) (k : Nat) : (s.extract k s.size).toList = s.data.toList.drop k := by
  rw [Lib.toList_data, Lib.extract_to_end]

set_option maxHeartbeats 400000 in
theorem rfits_short (s : ByteArray) (w : World) (h : s.size < 4) :
    Calls Try.prog 20 #[.string s] w fun e w' => e = .returned (.bool false) ∧ Below w.heap.size w w' := by
  have hd : decide ((4 : Int) ≤ s.size) = false := by simp; omega
  go_enter Try.func20, Try.ntmps20
  go_wp2
  go_quiet (fail)
  go_wp2
  go_ret
  exact ⟨rfl, below_drewN (Below.refl _ _) _⟩

set_option maxHeartbeats 400000 in
theorem rfits_long (s : ByteArray) (w : World) (hs : s.size ≤ maxLen) (h : 4 ≤ s.size) :
    Calls Try.prog 20 #[.string s] w fun e w' => e = .returned (.bool (fitsB s.data.toList)) ∧ Below w.heap.size w w' := by
  have hd : decide ((4 : Int) ≤ s.size) = true := by simp; omega
  have hw1 : IntKind.i64.wrap ((s.size : Int) - 4) = (s.size : Int) - 4 := by unfold maxLen at hs; exact IntWalk.i64_in _ (by omega)
  have h1 : (4 : Int) ≤ (s.size : Int) := by omega
  have h3 : ((s.size : Int) - 4).toNat = s.size - 4 := by omega
  have hs1 : ∀ w, (Instr.slice 9 (.string s) none (some (.int .i64 ((s.size : Int) - 4))) none).run Try.prog w = .ok (.string (s.extract 0 (s.size - 4))) w := fun w => by
    rw [run_slice_string_to_if w 9 s .i64 _ Try.underlying9, if_pos (by omega), h3]
  have hs2 : ∀ w, (Instr.slice 9 (.string s) (some (.int .i64 ((s.size : Int) - 4))) none none).run Try.prog w = .ok (.string (s.extract (s.size - 4) s.size)) w := fun w => by
    rw [run_slice_string_from_if w 9 s .i64 _ Try.underlying9, if_pos (by omega), h3]
  have hs' : (s.extract 0 (s.size - 4)).size ≤ maxLen := by rw [ByteArray.size_extract]; omega
  clear h3
  go_enter Try.func20, Try.ntmps20
  go_wp2
  go_region_held3 (fun _ => True) (trivial) (first | (go_at_call 17; refine (rof_any _ _ hs').mono ?_; rintro e w' ⟨rfl, rfl⟩) | (go_at_call 18; refine (rput_any _ _ (sAll_0 _)).mono ?_; rintro e w' ⟨rfl, _, rfl⟩))
  go_wp2
  go_ret
  refine ⟨ret_bool ?_, ((Below.refl _ _).alloc (Nat.le_refl _) _).drew⟩
  have e : (s.extract (s.size - 4) s.size).toList = s.data.toList.drop (s.size - 4) := toList_from s _
  show (putL (sAll 0 (s.data.toList.take (s.size - 4))) == (s.extract (s.size - 4) s.size).toList) = _
  rw [e]
  unfold fitsB
  rw [show s.data.toList.length = s.size from by simp]
  simp [h]

set_option maxHeartbeats 400000 in
theorem all_b (hh : Int) (a : Addr) (cap : Nat) (s : ByteArray) (n : Nat) (w : World) (hn : s.size = n) (hl : s.size ≤ maxLen) (h0 : 0 ≤ hh) (h1 : hh < 2147483647) (hc : ∀ j (hj : j < s.size), w.cell? (a.add j) = some (.int .u8 (s[j].toNat : Int))) :
    Calls Try.prog 36 #[.int .i64 hh, .slice (some a) n cap] w fun e w' => e = .returned (.int .i64 (sAll hh s.data.toList)) ∧ w = w' := by
  subst hn
  unfold maxLen at hl
  have HC := Lib.hid hc
  clear hc
  go_enter Try.func36, Try.ntmps36
  go_wp2
  go_loop [0, 8] (fun n i => ∃ k : Nat, k ≤ s.size ∧ i = .int .i64 k ∧ n = .int .i64 (sAll hh (s.data.toList.take k))) (fun _ i => s.size - (intOf i).toNat)
  case atStart => exact ⟨0, Nat.zero_le _, rfl, rfl⟩
  case round =>
    obtain ⟨k, hk, rfl, rfl⟩ := hrel
    have hi : InP (sAll hh (s.data.toList.take k)) := sAll_in ⟨h0, h1⟩ _
    obtain ⟨hi0, hi1⟩ := hi
    by_cases hlt : k < s.size
    · have hu := u8_le s[k]
      obtain ⟨hu0, hu1⟩ := hu
      have HS : Hid (sAll hh (s.data.toList.take (k + 1)) = sOn (sAll hh (s.data.toList.take k)) s[k].toNat) := by rw [take_snoc s k hlt, sAll_snoc]; exact rfl
      have hcell := HC.out k hlt
      go_wp2_with (go_at_call 42; refine (on_any _ _ _ (by assumption) (by assumption) (by assumption) (by assumption)).mono ?_; rintro e w' ⟨rfl, rfl⟩)
      go_round
      case rel => exact ⟨k + 1, by omega, by go_num, by rw [HS.out]⟩
      case measure => simp [intOf]; omega
    · go_wp2
      go_ret
      exact ⟨ret_int (by rw [List.take_of_length_le (by simp; omega)]), rfl⟩

/-- What '[]byte(s)' lays. -/
def bytesAt (w : World) (s : ByteArray) : World := w.drew.alloc (.cells (bytesRow s (grownCap w s.size 0 5)) 5 ((bytesRow s (grownCap w s.size 0 5)).size, (bytesRow s (grownCap w s.size 0 5)).size + 1))
theorem run_bytesAt (s : ByteArray) (w : World) : (convert 9 29 (.string s)).run Try.prog w = .ok (.slice (some ⟨w.heap.size, 0, none⟩) s.size (grownCap w s.size 0 5)) (bytesAt w s) :=
  run_bytes_of_string w 9 29 5 s Try.underlying9 Try.underlying29 Try.underlying5
theorem bytesAt_cell (s : ByteArray) (w : World) (j : Nat) (hj : j < s.size) : (bytesAt w s).cell? ((⟨w.heap.size, 0, none⟩ : Addr).add j) = some (.int .u8 (s[j].toNat : Int)) := by
  have : (⟨w.heap.size, 0, none⟩ : Addr).add j = ⟨w.heap.size, j, none⟩ := by unfold Addr.add; split <;> simp_all
  rw [this]
  unfold bytesAt
  refine (World.cell?_alloc_mark w.drew _ _ _ j).trans ?_
  exact bytesRow_at s _ j hj
theorem bytesAt_below (s : ByteArray) (w : World) : Below w.heap.size w (bytesAt w s) := (Below.refl _ _).drew.alloc (Nat.le_refl _) _

set_option maxHeartbeats 400000 in
theorem fits_short (s : ByteArray) (w : World) (h : s.size < 4) :
    Calls Try.prog 19 #[.string s] w fun e w' => e = .returned (.bool false) ∧ w = w' := by
  have hd : decide ((s.size : Int) < 4) = true := by simp; omega
  go_enter Try.func19, Try.ntmps19
  go_wp2
  go_ret
  exact ⟨rfl, rfl⟩

set_option maxHeartbeats 400000 in
theorem fits_long (s : ByteArray) (w : World) (hs : s.size ≤ maxLen) (h : 4 ≤ s.size) :
    Calls Try.prog 19 #[.string s] w fun e w' => e = .returned (.bool (fitsB s.data.toList)) ∧ Below w.heap.size w w' := by
  unfold maxLen at hs
  have h1 : (4 : Int) ≤ (s.size : Int) := by omega
  have h3 : ((s.size : Int) - 4).toNat = s.size - 4 := by omega
  have hs1 : ∀ w, (Instr.slice 9 (.string s) none (some (.int .i64 ((s.size : Int) - 4))) none).run Try.prog w = .ok (.string (s.extract 0 (s.size - 4))) w := fun w => by
    rw [run_slice_string_to_if w 9 s .i64 _ Try.underlying9, if_pos (by omega), h3]
  have hs2 : ∀ w, (Instr.slice 9 (.string s) (some (.int .i64 ((s.size : Int) - 4))) none none).run Try.prog w = .ok (.string (s.extract (s.size - 4) s.size)) w := fun w => by
    rw [run_slice_string_from_if w 9 s .i64 _ Try.underlying9, if_pos (by omega), h3]
  clear h3
  have h4 : (s.extract (s.size - 4) s.size).size = 4 := by rw [ByteArray.size_extract]; omega
  have H4 := Lib.hid h4
  clear h4
  have hcv := run_bytesAt (s.extract 0 (s.size - 4))
  have hs' : (s.extract 0 (s.size - 4)).size ≤ maxLen := by unfold maxLen; rw [ByteArray.size_extract]; omega
  go_enter Try.func19, Try.ntmps19
  go_wp2_with fail
  refine (read_any _ _ H4.out).mono ?_
  rintro e w' ⟨rfl, rfl⟩
  have HX : ∃ x, Hid (x = num4 (s.extract (s.size - 4) s.size).data.toList) := ⟨_, rfl⟩
  obtain ⟨x, HX⟩ := HX
  rw [← HX.out]
  by_cases hx : x < 2147483647
  · rw [readV_lt hx, readE_lt hx]
    go_wp2_with fail
    refine (all_b 0 _ _ (s.extract 0 (s.size - 4)) _ _ (by rw [ByteArray.size_extract]; omega) hs' (by omega) (by omega) (bytesAt_cell _ _)).mono ?_
    rintro e w' ⟨rfl, rfl⟩
    go_wp2
    go_ret
    refine ⟨ret_bool ?_, bytesAt_below _ _⟩
    rw [fitsB_eq _ (by simpa using h), HX.out, Lib.extract_to_end]
    simp
  · rw [readV_ge (by omega), readE_ge (by omega)]
    go_wp2_with fail
    go_ret
    refine ⟨ret_bool ?_, Below.refl _ _⟩
    rw [fitsB_eq _ (by simpa using h)]
    have hz : x = num4 (s.data.toList.drop (s.data.toList.length - 4)) := by rw [HX.out, Lib.extract_to_end]; simp
    have hi := sAll_0 (s.data.toList.take (s.data.toList.length - 4))
    unfold InP at hi
    rw [← hz]
    show false = _
    symm
    rw [beq_eq_false_iff_ne]
    omega

end Go.Proofs.Ytgoeabkoljabkaa
