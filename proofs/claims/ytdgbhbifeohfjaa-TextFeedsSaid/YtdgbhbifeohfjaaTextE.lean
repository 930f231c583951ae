/- The walks of the reference's Line. -/
import Derived.Test.YtdgbhbifeohfjaaTextD
namespace Go.Proofs.Ytdgbhbifeohfjaa
open Go.RowKit

theorem right_yes {c : UInt8} (h : rightB c = true) : c.toNat = 9 ∨ (32 ≤ c.toNat ∧ c.toNat ≤ 126) := by
  unfold rightB at h
  rw [Bool.or_eq_true, Bool.and_eq_true, decide_eq_true_iff, decide_eq_true_iff, beq_iff_eq] at h
  rcases h with h | h
  · exact Or.inr h
  · exact Or.inl (by rw [h]; rfl)
theorem right_no {c : UInt8} (h : rightB c = false) : c.toNat ≠ 9 ∧ (c.toNat < 32 ∨ 126 < c.toNat) := by
  unfold rightB at h
  rw [Bool.or_eq_false_iff, Bool.and_eq_false_iff, decide_eq_false_iff_not, decide_eq_false_iff_not, beq_eq_false_iff_ne] at h
  obtain ⟨h1, h2⟩ := h
  refine ⟨fun e => h2 (UInt8.toNat_inj.1 e), by omega⟩
theorem list_byte (S : ByteArray) (l : List UInt8) (h : S.data.toList = l) (k : Nat) (hk : k < l.length) (hk' : k < S.size) : l[k] = S[k] := by subst h; rfl
theorem last_byte (s : ByteArray) (h : 0 < s.size) (h' : s.data.toList.length - 1 < s.data.toList.length) : s.data.toList[s.data.toList.length - 1] = s[s.size - 1]'(by omega) := by
  simp only [Array.length_toList, Array.getElem_toList]; rfl
theorem nonempty {s : ByteArray} (h : 0 < s.size) : s.toList.isEmpty = false ∧ ((s.toList = []) = False) := by
  have hl : s.toList.length = s.size := by rw [Lib.toList_data]; simp
  constructor
  · rw [List.isEmpty_eq_false_iff]; intro e; rw [e] at hl; simp at hl; omega
  · rw [eq_iff_iff]; exact ⟨fun e => by rw [e] at hl; simp at hl; omega, False.elim⟩

set_option maxRecDepth 100000 in
set_option maxHeartbeats 2000000 in
theorem rline_empty (s : ByteArray) (m : Nat) (w : World) (h0 : s.size = 0) :
    Calls Try.prog 25 #[.string s, .int .i64 (m : Int)] w fun e w' => e = .returned (.agg #[.string ⟨(lineOf m s.data.toList).1.toArray⟩, .int .i64 (lineOf m s.data.toList).2]) ∧ Below w.heap.size w w' := by
  obtain rfl : s = ByteArray.empty := ByteArray.size_eq_zero_iff.1 h0
  clear h0
  have hr : Hid (lineOf m ByteArray.empty.data.toList = ([], 0)) := line_good (by simp [strip]) (by intro j hj; simp [strip] at hj)
  go_enter Try.func25, Try.ntmps25
  go_wp2
  refine wp_loop_rounds 1 ?_
  rw [rounds_succ]
  go_wp2
  exact bodyPost_ret (v := .agg #[.string ByteArray.empty, .int .i64 0]) (by simp [results, Try.results25, go_sem]) rfl ⟨by rw [hr.out]; rfl, (Below.refl _ _).alloc (Nat.le_refl _) _⟩

set_option maxRecDepth 100000 in
set_option maxHeartbeats 2000000 in
theorem rline_plain (s : ByteArray) (m : Nat) (w : World) (hm : m ≤ 4096) (hs : s.size ≤ 100000) (h0 : 0 < s.size) (h13 : s[s.size - 1] ≠ 13) :
    Calls Try.prog 25 #[.string s, .int .i64 (m : Int)] w fun e w' => e = .returned (.agg #[.string ⟨(lineOf m s.data.toList).1.toArray⟩, .int .i64 (lineOf m s.data.toList).2]) ∧ Below w.heap.size w w' := by
  obtain ⟨S, hS⟩ : ∃ S, S = s := ⟨s, rfl⟩
  have HS : Hid (S.data.toList = strip s.data.toList) := by
    have := strip_no (p := s.data.toList) (by simpa using h0) (by rw [last_byte s h0]; exact h13)
    unfold Hid; rw [this, hS]
  rw [← hS] at h0 hs
  obtain ⟨ne1, ne2⟩ := nonempty h0
  have hd13 : ((S[S.size - 1].toNat : Int) == 13) = false := by
    subst hS
    rw [beq_eq_false_iff_ne]; intro e; exact h13 (UInt8.toNat_inj.1 (by show _ = 13; omega))
  have HS1 := Lib.hid hS
  rw [show Calls Try.prog 25 #[.string s, .int .i64 (m : Int)] w = Calls Try.prog 25 #[.string S, .int .i64 (m : Int)] w from by rw [hS]]
  clear hS h13
  go_enter Try.func25, Try.ntmps25
  by_cases hbig : m < S.size
  · have hr : Hid (lineOf m s.data.toList = ([], 5)) := line_size (by rw [← HS.out]; simpa using hbig)
    go_wp2
    exact bodyPost_ret (v := .agg #[.string ⟨#[]⟩, .int .i64 5]) (by simp [results, Try.results25, go_sem]) rfl ⟨by rw [hr.out], (Below.refl _ _).alloc (Nat.le_refl _) _⟩
  · go_wp2
    go_loop [5] (fun i => ∃ k : Nat, k ≤ S.size ∧ i = .int .i64 k ∧ Hid (∀ j, (hj : j < S.size) → j < k → rightB S[j] = true)) (fun i => S.size - (intOf i).toNat)
    case atStart => exact ⟨0, by omega, rfl, fun j _ h => absurd h (by omega)⟩
    case round =>
      obtain ⟨k, hk, rfl, HR⟩ := hrel
      by_cases hlt : k < S.size
      · by_cases hgood : rightB S[k] = true
        · have HN : Hid (∀ j, (hj : j < S.size) → j < k + 1 → rightB S[j] = true) := by
            intro j hj h
            by_cases e : j = k
            · subst e; exact hgood
            · exact HR.out j hj (by omega)
          rcases right_yes hgood with h9 | ⟨ha, hb⟩
          · have hd : ((S[k].toNat : Int) != 9) = false := by rw [bne_eq_false_iff_eq]; omega
            clear h9 hgood
            go_wp2
            exact ⟨⟨k + 1, by omega, by go_num, HN⟩, by simp [intOf]; omega⟩
          · by_cases h9 : S[k].toNat = 9
            · omega
            · have hd : ((S[k].toNat : Int) != 9) = true := by rw [bne_iff_ne]; omega
              clear h9 hgood
              go_wp2
              exact ⟨⟨k + 1, by omega, by go_num, HN⟩, by simp [intOf]; omega⟩
        · have hgood' : rightB S[k] = false := by simpa using hgood
          have hr : Hid (lineOf m s.data.toList = ([], 3)) := line_bad (by rw [← HS.out]; simp; omega) k (by rw [← HS.out]; simpa using hlt) (by rw [list_byte S _ HS.out k _ hlt]; exact hgood')
          obtain ⟨h9, hab⟩ := right_no hgood'
          have hd : ((S[k].toNat : Int) != 9) = true := by rw [bne_iff_ne]; omega
          clear hgood hgood' h9
          rcases hab with hab | hab
          all_goals
            go_wp2
            exact bodyPost_ret (v := .agg #[.string ⟨#[]⟩, .int .i64 3]) (by simp [results, Try.results25, go_sem]) rfl ⟨by rw [hr.out], (Below.refl _ _).alloc (Nat.le_refl _) _⟩
      · have hr : Hid (lineOf m s.data.toList = (S.data.toList, 0)) := by
          have := line_good (m := m) (p := s.data.toList) (by rw [← HS.out]; simp; omega) (by
            intro j hj
            have hj' : j < S.size := by rw [← HS.out] at hj; simpa using hj
            rw [list_byte S _ HS.out j hj hj']; exact HR.out j hj' (by omega))
          unfold Hid; rw [this, HS.out]
        go_wp2
        exact bodyPost_ret (v := .agg #[.string S, .int .i64 0]) (by simp [results, Try.results25, go_sem]) rfl ⟨by rw [hr.out], (Below.refl _ _).alloc (Nat.le_refl _) _⟩

set_option maxRecDepth 100000 in
set_option maxHeartbeats 2000000 in
theorem rline_cr (s : ByteArray) (m : Nat) (w : World) (hm : m ≤ 4096) (hs : s.size ≤ 100000) (h0 : 0 < s.size) (h13 : s[s.size - 1] = 13) :
    Calls Try.prog 25 #[.string s, .int .i64 (m : Int)] w fun e w' => e = .returned (.agg #[.string ⟨(lineOf m s.data.toList).1.toArray⟩, .int .i64 (lineOf m s.data.toList).2]) ∧ Below w.heap.size w w' := by
  obtain ⟨S, HS1⟩ : ∃ S, Hid (S = s.extract 0 (s.size - 1)) := ⟨_, rfl⟩
  have HS : Hid (S.data.toList = strip s.data.toList) := by
    have := strip_yes (p := s.data.toList) (by simpa using h0) (by rw [last_byte s h0]; exact h13)
    unfold Hid; rw [this, HS1.out, Lib.extract_data, List.drop_zero, List.dropLast_eq_take]; simp
  have hsS : S.size ≤ 100000 := by rw [HS1.out, ByteArray.size_extract]; omega
  obtain ⟨ne1, ne2⟩ := nonempty h0
  have hd13 : ((s[s.size - 1].toNat : Int) == 13) = true := by rw [h13]; rfl
  have hsl : ∀ W, (Instr.slice 9 (.string s) none (some (.int .i64 ((s.size : Int) - 1))) none).run Try.prog W = .ok (.string S) W := fun W => by
    rw [run_slice_string_to_if W 9 s .i64 _ Try.underlying9, if_pos (by omega), show ((s.size : Int) - 1).toNat = s.size - 1 from by omega, ← HS1.out]
  clear h13
  go_enter Try.func25, Try.ntmps25
  by_cases hbig : m < S.size
  · have hr : Hid (lineOf m s.data.toList = ([], 5)) := line_size (by rw [← HS.out]; simpa using hbig)
    go_wp2
    exact bodyPost_ret (v := .agg #[.string ⟨#[]⟩, .int .i64 5]) (by simp [results, Try.results25, go_sem]) rfl ⟨by rw [hr.out], (Below.refl _ _).alloc (Nat.le_refl _) _⟩
  · go_wp2
    go_loop [5] (fun i => ∃ k : Nat, k ≤ S.size ∧ i = .int .i64 k ∧ Hid (∀ j, (hj : j < S.size) → j < k → rightB S[j] = true)) (fun i => S.size - (intOf i).toNat)
    case atStart => exact ⟨0, by omega, rfl, fun j _ h => absurd h (by omega)⟩
    case round =>
      obtain ⟨k, hk, rfl, HR⟩ := hrel
      by_cases hlt : k < S.size
      · by_cases hgood : rightB S[k] = true
        · have HN : Hid (∀ j, (hj : j < S.size) → j < k + 1 → rightB S[j] = true) := by
            intro j hj h
            by_cases e : j = k
            · subst e; exact hgood
            · exact HR.out j hj (by omega)
          rcases right_yes hgood with h9 | ⟨ha, hb⟩
          · have hd : ((S[k].toNat : Int) != 9) = false := by rw [bne_eq_false_iff_eq]; omega
            clear h9 hgood
            go_wp2
            exact ⟨⟨k + 1, by omega, by go_num, HN⟩, by simp [intOf]; omega⟩
          · by_cases h9 : S[k].toNat = 9
            · omega
            · have hd : ((S[k].toNat : Int) != 9) = true := by rw [bne_iff_ne]; omega
              clear h9 hgood
              go_wp2
              exact ⟨⟨k + 1, by omega, by go_num, HN⟩, by simp [intOf]; omega⟩
        · have hgood' : rightB S[k] = false := by simpa using hgood
          have hr : Hid (lineOf m s.data.toList = ([], 3)) := line_bad (by rw [← HS.out]; simp; omega) k (by rw [← HS.out]; simpa using hlt) (by rw [list_byte S _ HS.out k _ hlt]; exact hgood')
          obtain ⟨h9, hab⟩ := right_no hgood'
          have hd : ((S[k].toNat : Int) != 9) = true := by rw [bne_iff_ne]; omega
          clear hgood hgood' h9
          rcases hab with hab | hab
          all_goals
            go_wp2
            exact bodyPost_ret (v := .agg #[.string ⟨#[]⟩, .int .i64 3]) (by simp [results, Try.results25, go_sem]) rfl ⟨by rw [hr.out], (Below.refl _ _).alloc (Nat.le_refl _) _⟩
      · have hr : Hid (lineOf m s.data.toList = (S.data.toList, 0)) := by
          have := line_good (m := m) (p := s.data.toList) (by rw [← HS.out]; simp; omega) (by
            intro j hj
            have hj' : j < S.size := by rw [← HS.out] at hj; simpa using hj
            rw [list_byte S _ HS.out j hj hj']; exact HR.out j hj' (by omega))
          unfold Hid; rw [this, HS.out]
        go_wp2
        exact bodyPost_ret (v := .agg #[.string S, .int .i64 0]) (by simp [results, Try.results25, go_sem]) rfl ⟨by rw [hr.out], (Below.refl _ _).alloc (Nat.le_refl _) _⟩

theorem rline_any (s : ByteArray) (m : Nat) (w : World) (hm : m ≤ 4096) (hs : s.size ≤ 100000) :
    Calls Try.prog 25 #[.string s, .int .i64 (m : Int)] w fun e w' => e = .returned (.agg #[.string ⟨(lineOf m s.data.toList).1.toArray⟩, .int .i64 (lineOf m s.data.toList).2]) ∧ Below w.heap.size w w' := by
  by_cases h0 : 0 < s.size
  · by_cases h13 : s[s.size - 1] = 13
    · exact rline_cr s m w hm hs h0 h13
    · exact rline_plain s m w hm hs h0 h13
  · exact rline_empty s m w (by omega)

end Go.Proofs.Ytdgbhbifeohfjaa
