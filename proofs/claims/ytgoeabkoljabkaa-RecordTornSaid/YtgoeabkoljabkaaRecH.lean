/- The walk of the law RecordTurned. -/
import Derived.Test.YtgoeabkoljabkaaRecG
namespace Go.Proofs.Ytgoeabkoljabkaa
open Go.RowKit
attribute [local go_sem ↓] Go.wp_at_zero Go.wp_at_succ

/-! ### One byte turned -/
theorem putL_eq {m n : Int} (hm : InP m) (hn : InP n) (h : putL m = putL n) : m = n := by
  have := (putL_inj (l := putL n) hm (putL_length n)).1 h
  rw [this, num4_putL n hn.1 (by have := hn.2; omega)]
theorem set_ne {l : List UInt8} {i : Nat} {v : UInt8} (hi : i < l.length) (h : l.set i v = l) : v = l[i] := by
  have : (l.set i v)[i]'(by simpa using hi) = l[i] := by simp only [h]
  rw [List.getElem_set_self] at this
  exact this
theorem sAll_set {l : List UInt8} {i : Nat} {v : UInt8} (hi : i < l.length) (h : sAll 0 (l.set i v) = sAll 0 l) : v = l[i] := by
  have e1 : l.set i v = l.take i ++ v :: l.drop (i + 1) := List.set_eq_take_append_cons_drop.trans (if_pos hi)
  have e2 : l = l.take i ++ l[i] :: l.drop (i + 1) := by
    have h2 : l.drop i = l[i] :: l.drop (i + 1) := List.drop_eq_getElem_cons hi
    rw [← h2, List.take_append_drop]
  rw [e1] at h
  have h' : sAll 0 (l.take i ++ v :: l.drop (i + 1)) = sAll 0 (l.take i ++ l[i] :: l.drop (i + 1)) := by rw [← e2]; exact h
  exact (turned _ _ _ _).1 h'
/-- Bytes with their sum, one of all turned: the sum doesn't fit. -/
theorem fits_set (p : List UInt8) (i : Nat) (v : UInt8) (hi : i < (p ++ putL (sAll 0 p)).length) (hv : v ≠ (p ++ putL (sAll 0 p))[i]) : fitsB ((p ++ putL (sAll 0 p)).set i v) = false := by
  have hq := putL_length (sAll 0 p)
  have hl : (p ++ putL (sAll 0 p)).length = p.length + 4 := by rw [List.length_append, hq]
  by_cases h : i < p.length
  · have hv' : v ≠ p[i] := by rw [List.getElem_append_left h] at hv; exact hv
    rw [List.set_append_left (h := h)]
    have hc : (p.set i v ++ putL (sAll 0 p)).length - 4 = (p.set i v).length := by rw [List.length_append, hq]; omega
    unfold fitsB
    rw [hc, List.take_left, List.drop_left]
    cases hb : (putL (sAll 0 (p.set i v)) == putL (sAll 0 p)) with
    | false => rw [Bool.and_false]
    | true => exact absurd (sAll_set h (putL_eq (sAll_0 _) (sAll_0 _) (beq_iff_eq.1 hb))) hv'
  · have hv' : v ≠ (putL (sAll 0 p))[i - p.length]'(by omega) := by rw [List.getElem_append_right (by omega)] at hv; exact hv
    rw [List.set_append_right (h := by omega)]
    have hc : (p ++ (putL (sAll 0 p)).set (i - p.length) v).length - 4 = p.length := by rw [List.length_append, List.length_set, hq]; omega
    unfold fitsB
    rw [hc, List.take_left, List.drop_left]
    cases hb : (putL (sAll 0 p) == (putL (sAll 0 p)).set (i - p.length) v) with
    | false => rw [Bool.and_false]
    | true => exact absurd (set_ne (by omega) (beq_iff_eq.1 hb).symm) hv'

theorem full_ln (x : It) (hc : chk x.1 x.2.1 x.2.2.length = 0) : lnL (fullL x) = x.2.2.length := by
  have e := read_full x [] hc
  rw [List.append_nil] at e
  have hr : readL (fullL x) = ((kdL (fullL x), atL (fullL x), ((fullL x).drop 10).take (lnL (fullL x))), 14 + lnL (fullL x), 0) ∨ (readL (fullL x)).2.1 = 0 := by
    unfold readL
    repeat' split
    all_goals first | exact .inl rfl | exact .inr rfl
  rcases hr with hr | hr
  · rw [hr] at e
    have := congrArg (fun q : It × Nat × Int => q.2.1) e
    simp only at this
    omega
  · rw [e] at hr; simp at hr

theorem readL_yes {l : List UInt8} (h : (readL l).2.2 = 0) : readL l = ((kdL l, atL l, (l.drop 10).take (lnL l)), 14 + lnL l, 0) ∧ fitsB (l.take (14 + lnL l)) = true ∧ 14 + lnL l ≤ l.length := by
  unfold readL at h ⊢
  repeat' split at h
  all_goals first | (simp [none_] at h; done) | skip
  · rename_i h4; simp only [none_] at h; exact absurd h h4
  · rename_i h0 h1 h2 h3 h4 h5 h6
    rw [if_neg h0, if_neg h1, if_neg h2, if_neg h3, if_neg h4, if_neg h5, if_neg h6]
    exact ⟨rfl, by simpa using h6, by omega⟩

theorem turned_read (x : It) (hc : chk x.1 x.2.1 x.2.2.length = 0) (i : Nat) (v : UInt8) (hi : i < (fullL x).length) (hv : v ≠ (fullL x)[i]) (h : (readL ((fullL x).set i v)).2.2 = 0) :
    (i = 8 ∨ i = 9) ∧ (readL ((fullL x).set i v)).1.2.2 ≠ x.2.2 ∧ (readL ((fullL x).set i v)).2.1 < 14 + x.2.2.length := by
  obtain ⟨hr, hf, hle⟩ := readL_yes h
  have hln := full_ln x hc
  have hlen := fullL_len x
  rw [List.length_set] at hle
  by_cases h8 : i = 8 ∨ i = 9
  · have hne : lnL ((fullL x).set i v) ≠ lnL (fullL x) := by
      intro e
      have e2 : (((fullL x).set i v).drop 8).take 2 = ((fullL x).drop 8).take 2 := by
        have l1 : ((((fullL x).set i v).drop 8).take 2).length = 2 := by simp; omega
        have l2 : (((fullL x).drop 8).take 2).length = 2 := by simp; omega
        have b1 := be_num4 _ 2 l1
        have b2 := be_num4 _ 2 l2
        have n1 := (num4_nn ((((fullL x).set i v).drop 8).take 2)).1
        have n2 := (num4_nn (((fullL x).drop 8).take 2)).1
        unfold lnL at e
        have : num4 ((((fullL x).set i v).drop 8).take 2) = num4 (((fullL x).drop 8).take 2) := by omega
        rw [← b1, ← b2, this]
      have e3 := congrArg (fun l : List UInt8 => l[i - 8]?) e2
      rw [List.getElem?_take_of_lt (by omega), List.getElem?_take_of_lt (by omega), List.getElem?_drop, List.getElem?_drop, show 8 + (i - 8) = i from by omega, List.getElem?_set_self hi, List.getElem?_eq_getElem hi] at e3
      exact hv (Option.some.inj e3)
    refine ⟨h8, ?_, ?_⟩
    · rw [hr]
      simp only
      intro e
      have := congrArg List.length e
      rw [List.length_take, List.length_drop, List.length_set] at this
      omega
    · rw [hr]; simp only; omega
  · exfalso
    have e2 : (((fullL x).set i v).drop 8).take 2 = ((fullL x).drop 8).take 2 := by
      apply List.ext_getElem?
      intro j
      by_cases hj : j < 2
      · rw [List.getElem?_take_of_lt hj, List.getElem?_take_of_lt hj, List.getElem?_drop, List.getElem?_drop, List.getElem?_set_ne (by omega)]
      · rw [List.getElem?_eq_none (by rw [List.length_take]; omega), List.getElem?_eq_none (by rw [List.length_take]; omega)]
    have e3 : lnL ((fullL x).set i v) = x.2.2.length := by rw [← hln]; unfold lnL; rw [e2]
    rw [e3, List.take_of_length_le (by rw [List.length_set]; omega)] at hf
    have hn : fitsB ((fullL x).set i v) = false := fits_set (headL x ++ x.2.2) i v hi hv
    rw [hn] at hf
    cases hf

set_option maxHeartbeats 1000000 in
theorem turned_no (k a : Int) (s : ByteArray) (at_ by_ : Int) (w : World) (h : 300 < s.size ∨ chk k a s.size ≠ 0 ∨ by_ = 0) :
    Calls Try.prog 7 #[itV k a s, .int .u16 at_, .int .u8 by_] w fun e w' => e = .returned (.bool true) ∧ Below w.heap.size w w' := by
  unfold itV
  have hx : Whole (w.alloc (.cells #[.int .i64 k, .int .i64 a, .string s] 36)) w.heap.size 36 #[.int .i64 k, .int .i64 a, .string s] := Whole.new w 36 _
  have hb0 := (Below.refl w.heap.size w).alloc (Nat.le_refl _) (.cells #[.int .i64 k, .int .i64 a, .string s] 36)
  by_cases h1 : 300 < s.size
  · clear h
    go_enter Try.func7, Try.ntmps7
    go_wp2_with fail
    generalize w.alloc (.cells #[.int .i64 k, .int .i64 a, .string s] 36) = w0 at *
    refine (put_it k a s _).mono ?_; rintro e w1 ⟨rfl, hb1⟩
    have hx1 := hx.below hb1 hx.lt
    have hbb1 := below_then hb0 hb1
    clear hx hb0 hb1
    obtain ⟨d0, d1, d2⟩ := hx1.three
    go_wp2_with fail
    refine (works8 _).mono ?_; rintro e w2 ⟨rfl, hb2⟩
    go_wp2_with fail
    go_ret
    exact ⟨rfl, below_then hbb1 hb2⟩
  · by_cases hc : chk k a s.size = 0
    · have hby : by_ = 0 := by omega
      subst hby
      have hcb : (chk k a s.size != 0) = false := by simp [hc]
      clear h hc
      go_enter Try.func7, Try.ntmps7
      go_wp2_with fail
      generalize w.alloc (.cells #[.int .i64 k, .int .i64 a, .string s] 36) = w0 at *
      refine (put_it k a s _).mono ?_; rintro e w1 ⟨rfl, hb1⟩
      rw [show putC k a s = chk k a s.size from rfl]
      have hx1 := hx.below hb1 hx.lt
      have hbb1 := below_then hb0 hb1
      clear hx hb0 hb1
      obtain ⟨d0, d1, d2⟩ := hx1.three
      go_wp2_with fail
      refine (works8 _).mono ?_; rintro e w2 ⟨rfl, hb2⟩
      go_wp2_with fail
      go_ret
      exact ⟨rfl, below_then hbb1 hb2⟩
    · have hcb : (chk k a s.size != 0) = true := by simpa using hc
      clear h hc
      go_enter Try.func7, Try.ntmps7
      go_wp2_with fail
      generalize w.alloc (.cells #[.int .i64 k, .int .i64 a, .string s] 36) = w0 at *
      refine (put_it k a s _).mono ?_; rintro e w1 ⟨rfl, hb1⟩
      rw [show putC k a s = chk k a s.size from rfl]
      have hx1 := hx.below hb1 hx.lt
      have hbb1 := below_then hb0 hb1
      clear hx hb0 hb1
      obtain ⟨d0, d1, d2⟩ := hx1.three
      go_wp2_with fail
      refine (works8 _).mono ?_; rintro e w2 ⟨rfl, hb2⟩
      go_wp2_with fail
      go_ret
      exact ⟨rfl, below_then hbb1 hb2⟩

theorem putB_full {k a : Int} {s : ByteArray} (h : chk k a s.size = 0) : (putB k a s).data.toList = fullL (k, a, s.data.toList) := by
  unfold putB putI
  rw [if_pos (by rw [show (k, a, s.data.toList).2.2.length = s.size from by simp]; exact h)]
theorem get_data (S : ByteArray) (L : List UInt8) (h : S.data.toList = L) (i : Nat) (hi : i < S.size) : ∃ hl : i < L.length, L[i] = S[i] := by
  subst h; exact ⟨by rw [len_l]; exact hi, rfl⟩

set_option maxHeartbeats 2000000 in
theorem turned_yes_ (k a : Int) (s : ByteArray) (at_ by_ : Int) (i : Nat) (w : World) (h1 : s.size ≤ 300) (hc : chk k a s.size = 0) (a0 : 0 ≤ at_) (a1 : at_ ≤ 65535) (b0 : 0 ≤ by_) (b1 : by_ ≤ 255) (hby : by_ ≠ 0) (hi : i < 14 + s.size) (hm : at_ % (14 + (s.size : Int)) = i) :
    Calls Try.prog 7 #[itV k a s, .int .u16 at_, .int .u8 by_] w fun e w' => e = .returned (.bool true) ∧ Below w.heap.size w w' := by
  unfold itV
  have hx : Whole (w.alloc (.cells #[.int .i64 k, .int .i64 a, .string s] 36)) w.heap.size 36 #[.int .i64 k, .int .i64 a, .string s] := Whole.new w 36 _
  have hb0 := (Below.refl w.heap.size w).alloc (Nat.le_refl _) (.cells #[.int .i64 k, .int .i64 a, .string s] 36)
  have hsz := putB_size hc
  have hfull := putB_full hc
  have hcb : (chk k a s.size != 0) = false := by simp [hc]
  have hyb : (by_ == 0) = false := by simpa using hby
  have hcx : chk (k, a, s.data.toList).1 (k, a, s.data.toList).2.1 (k, a, s.data.toList).2.2.length = 0 := by rw [show (k, a, s.data.toList).2.2.length = s.size from by simp]; exact hc
  have h300 : ¬ (300 : Int) < (s.size : Int) := by omega
  go_enter Try.func7, Try.ntmps7
  go_wp2_with fail
  generalize w.alloc (.cells #[.int .i64 k, .int .i64 a, .string s] 36) = w0 at *
  refine (put_it k a s _).mono ?_; rintro e w1 ⟨rfl, hb1⟩
  rw [show putC k a s = chk k a s.size from rfl]
  generalize putB k a s = S at *
  have hx1 := hx.below hb1 hx.lt
  have hbb1 := below_then hb0 hb1
  clear hx hb0 hb1
  obtain ⟨d0, d1, d2⟩ := hx1.three
  have hi' : i < S.size := by omega
  obtain ⟨hne, hne2⟩ := nonempty_facts S (by omega)
  have hcv := run_bytesAt S w1
  have hcell := bytesAt_cell' S w1 i hi'
  have hfz := bytesAt_frozen S w1 i hi'
  obtain ⟨v, hxv, hvx⟩ := xor_u8 S[i] by_ b0 b1
  have hstr := turned_str S w1 i v hi' (grownCap w1 S.size 0 5)
  obtain ⟨hil, hLi⟩ := get_data S _ hfull i hi'
  have hv : v ≠ (fullL (k, a, s.data.toList))[i] := by rw [hLi]; intro e; exact hby (hvx.1 e)
  have HT := Lib.hid (turned_read (k, a, s.data.toList) hcx i v hil hv)
  rw [hsz] at hcv hstr
  rw [hfull] at hstr
  have HF := Lib.hid hfull
  have hsz' : (S.size : Int) = 14 + (s.size : Int) := by omega
  clear hv hvx hLi hil hcx hfull hc hby
  go_wp2_with fail
  have hbS := set_below S w1 i (.int .u8 (v.toNat : Int))
  have hML : ((fullL (k, a, s.data.toList)).set i v).length = 14 + s.size := by rw [List.length_set, fullL_len]; simp
  generalize (fullL (k, a, s.data.toList)).set i v = M at *
  obtain ⟨⟨k', a', b'⟩, n', c', hr⟩ : ∃ x n c, readL M = (x, n, c) := ⟨_, _, _, rfl⟩
  have hT : c' = 0 → (i = 8 ∨ i = 9) ∧ b' ≠ s.data.toList ∧ n' < 14 + s.size := by
    have := HT.out; rw [hr, len_l] at this; exact this
  have hN : c' ≠ 0 → n' = 0 := fun hc => by
    have := readL_0 M (by rw [hr]; exact hc)
    rw [hr] at this
    exact congrArg (fun q : It × Nat × Int => q.2.1) this
  have HR := Lib.hid hr
  have HTT := Lib.hid hT
  have HNN := Lib.hid hN
  clear hr hT hN HT hcv hcell hfz hxv hstr d0 d1 d2 hne hne2
  have hx2 := hx1.below hbS hx1.lt
  have hbb2 := below_then hbb1 hbS
  generalize (bytesAt w1 S).setCell ⟨w1.heap.size, i, none⟩ (.int .u8 (v.toNat : Int)) = w2 at *
  clear hx1 hbb1 hbS
  refine (read_is_ ⟨M.toArray⟩ (k', a', b') n' c' _ (by show M.toArray.size ≤ _; rw [List.size_toArray]; omega) HR.out).mono ?_; rintro e w3 ⟨rfl, hb3⟩
  have hx3 := (hx2.below hb3 hx2.lt).alloc (.cells #[.int .i64 k', .int .i64 a', .string ⟨b'.toArray⟩] 36)
  have hbb3 := (below_then hbb2 hb3).alloc (Nat.le_trans hbb2.size hb3.size) (.cells #[.int .i64 k', .int .i64 a', .string ⟨b'.toArray⟩] 36)
  have hall : ∀ o, Below w.heap.size w (w3.alloc o) := fun o => (below_then hbb2 hb3).alloc (Nat.le_trans hbb2.size hb3.size) o
  clear hx2 hbb2 hb3
  obtain ⟨d0, d1, d2⟩ := hx3.three
  by_cases hc' : c' = 0
  · subst hc'
    obtain ⟨h89, hbn, hlt⟩ := HTT.out rfl
    have hq : ((⟨b'.toArray⟩ : ByteArray).toList == s.toList) = false := by
      rw [Lib.toList_data, Lib.toList_data, beq_eq_false_iff_ne]; exact hbn
    have hq2 : (b' = s.toList) = False := by rw [Lib.toList_data]; exact eq_false hbn
    have hlt' : (n' : Int) < 14 + (s.size : Int) := by omega
    clear hbn HTT HNN
    rcases h89 with rfl | rfl
    · have hm8 : at_ % (14 + (s.size : Int)) = 8 := by omega
      clear hm
      go_wp2_with fail
      all_goals
        refine (works8 _).mono ?_; rintro e w4 ⟨rfl, hb4⟩
        go_wp2_with fail
        go_ret
        exact ⟨rfl, below_then (hall _) hb4⟩
    · have hm8 : at_ % (14 + (s.size : Int)) = 9 := by omega
      clear hm
      go_wp2_with fail
      all_goals
        refine (works8 _).mono ?_; rintro e w4 ⟨rfl, hb4⟩
        go_wp2_with fail
        go_ret
        exact ⟨rfl, below_then (hall _) hb4⟩
  · have hn0 := HNN.out hc'
    subst hn0
    have hcb' : (c' != 0) = true := by simpa using hc'
    clear HTT HNN hc'
    by_cases h8 : i = 8
    · subst h8
      have hm8 : at_ % (14 + (s.size : Int)) = 8 := by omega
      clear hm
      go_wp2_with fail
      refine (works8 _).mono ?_; rintro e w4 ⟨rfl, hb4⟩
      go_wp2_with fail
      go_ret
      exact ⟨rfl, below_then hbb3 hb4⟩
    · by_cases h9 : i = 9
      · subst h9
        have hm8 : at_ % (14 + (s.size : Int)) = 9 := by omega
        clear hm
        go_wp2_with fail
        refine (works8 _).mono ?_; rintro e w4 ⟨rfl, hb4⟩
        go_wp2_with fail
        go_ret
        exact ⟨rfl, below_then hbb3 hb4⟩
      · have hb8 : ((i : Int) == 8) = false := by rw [beq_eq_false_iff_ne]; omega
        have hb9 : ((i : Int) == 9) = false := by rw [beq_eq_false_iff_ne]; omega
        clear h8 h9
        go_wp2_with fail
        refine (works8 _).mono ?_; rintro e w4 ⟨rfl, hb4⟩
        go_wp2_with fail
        go_ret
        exact ⟨rfl, below_then hbb3 hb4⟩

theorem turned_all (k a : Int) (s : ByteArray) (at_ by_ : Int) (w : World) (a0 : 0 ≤ at_) (a1 : at_ ≤ 65535) (b0 : 0 ≤ by_) (b1 : by_ ≤ 255) :
    Calls Try.prog 7 #[itV k a s, .int .u16 at_, .int .u8 by_] w fun e w' => e = .returned (.bool true) ∧ Below w.heap.size w w' := by
  by_cases h : 300 < s.size ∨ chk k a s.size ≠ 0 ∨ by_ = 0
  · exact turned_no k a s at_ by_ w h
  · have m0 : 0 ≤ at_ % (14 + (s.size : Int)) := Int.emod_nonneg _ (by omega)
    have m1 : at_ % (14 + (s.size : Int)) < 14 + (s.size : Int) := Int.emod_lt_of_pos _ (by omega)
    obtain ⟨i, hm⟩ := Int.eq_ofNat_of_zero_le m0
    exact turned_yes_ k a s at_ by_ i w (by omega) (by omega) a0 a1 b0 b1 (by omega) (by omega) hm

end Go.Proofs.Ytgoeabkoljabkaa
