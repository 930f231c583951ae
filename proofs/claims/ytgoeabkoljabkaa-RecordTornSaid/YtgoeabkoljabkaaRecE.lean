/- The walks of Scan, of both, and of Same. -/
import Derived.Test.YtgoeabkoljabkaaRecD
import Derived.WalkMore
namespace Go.Proofs.Ytgoeabkoljabkaa
open Go.RowKit
attribute [local go_sem ↓] Go.wp_at_zero Go.wp_at_succ

/-! ### Rows of items -/
def itC (x : It) : List Value := [.int .i64 x.1, .int .i64 x.2.1, .string ⟨x.2.2.toArray⟩]
def itVs (l : List It) : List Value := l.flatMap itC
theorem itVs_append (a b : List It) : itVs (a ++ b) = itVs a ++ itVs b := by simp [itVs]
theorem itVs_one (s : It) : itVs [s] = itC s := by simp [itVs]
theorem itVs_cons (s : It) (l : List It) : itVs (s :: l) = itC s ++ itVs l := by simp [itVs]
theorem itC_len (s : It) : (itC s).length = 3 := rfl
theorem itC_one (s : It) : ∀ u ∈ itC s, u.oneCell' = true := by
  intro u hu; simp [itC] at hu; rcases hu with rfl | rfl | rfl <;> rfl
theorem itVs_length (l : List It) : (itVs l).length = l.length * 3 := by
  induction l with
  | nil => rfl
  | cons s l ih => rw [itVs_cons, List.length_append, ih, itC_len]; simp; omega
theorem itVs_at : ∀ (l : List It) (k : Nat) (h : k < l.length), (itVs l)[k * 3]? = some (.int .i64 l[k].1) ∧ (itVs l)[k * 3 + 1]? = some (.int .i64 l[k].2.1) ∧ (itVs l)[k * 3 + 2]? = some (.string ⟨l[k].2.2.toArray⟩)
  | s :: l, 0, _ => by rw [itVs_cons]; exact ⟨rfl, rfl, rfl⟩
  | s :: l, k + 1, h => by
    have ih := itVs_at l k (by simpa using h)
    rw [itVs_cons]
    have e : ∀ i, (itC s ++ itVs l)[(k + 1) * 3 + i]? = (itVs l)[k * 3 + i]? := fun i => by
      rw [List.getElem?_append_right (by rw [itC_len]; omega), itC_len]
      congr 1; omega
    have e0 := e 0
    simp only [Nat.add_zero] at e0
    rw [e0, e 1, e 2]
    exact ih
theorem itVs_take (l : List It) (i : Nat) : (itVs l).take (i * 3) = itVs (l.take i) := by
  by_cases h : i ≤ l.length
  · conv => lhs; rw [← List.take_append_drop i l, itVs_append]
    have : (itVs (l.take i)).length = i * 3 := by rw [itVs_length, List.length_take]; congr 1; omega
    rw [← this, List.take_left]
  · rw [List.take_of_length_le (by rw [itVs_length]; omega), List.take_of_length_le (by omega)]
theorem itpush {w : World} {base : Nat} {v : Value} {J : List It} {s : It} (h : w.ownsRow base 36 3 v (J.length + 1) (itVs J ++ itC s)) : w.ownsRow base 36 3 v (J ++ [s]).length (itVs (J ++ [s])) := by
  rw [List.length_append, itVs_append, itVs_one]; exact h

/-! ### Scan -/
def ScanAt (l : List UInt8) (O : List It) (A f : Nat) : Prop := A ≤ l.length ∧ l.length - A < f ∧ O.length ≤ A ∧ scanL (l.length + 1) l = (O ++ (scanL f (l.drop A)).1, A + (scanL f (l.drop A)).2)
theorem scanAt_0 (l : List UInt8) : ScanAt l [] 0 (l.length + 1) := ⟨by omega, by omega, by simp, by simp⟩
theorem scanAt_step {l : List UInt8} {O : List It} {A f : Nat} {x : It} {n : Nat} (h : ScanAt l O A f) (hr : readL (l.drop A) = (x, n, 0)) : (∃ f', ScanAt l (O ++ [x]) (A + n) f') ∧ 14 ≤ n ∧ A + n ≤ l.length := by
  obtain ⟨h1, h2, h3, h4⟩ := h
  have hn := readL_n (l.drop A) (by rw [hr])
  rw [hr, List.length_drop] at hn
  simp only at hn
  refine ⟨?_, hn.1, by omega⟩
  obtain ⟨f', rfl⟩ : ∃ f', f = f' + 1 := ⟨f - 1, by omega⟩
  refine ⟨f', by omega, by omega, by simp; omega, ?_⟩
  rw [h4, scanL, hr, if_pos rfl]
  simp only
  rw [List.drop_drop, List.append_assoc, List.singleton_append, Nat.add_assoc]
theorem scanAt_end {l : List UInt8} {O : List It} {A f : Nat} (h : ScanAt l O A f) (hr : (readL (l.drop A)).2.2 ≠ 0) : scanL (l.length + 1) l = (O, A) := by
  obtain ⟨h1, h2, h3, h4⟩ := h
  obtain ⟨f', rfl⟩ : ∃ f', f = f' + 1 := ⟨f - 1, by omega⟩
  rw [h4, scanL, if_neg hr]
  simp

/-- All the items that a text begins with, and how many bytes these have. -/
def scanS (s : ByteArray) : List It × Nat := scanL (s.data.toList.length + 1) s.data.toList
def ScanPost (r : List It × Nat) (w : World) (e : Ending) (w' : World) : Prop :=
  ∃ v, e = .returned (.tuple #[v, .int .i64 (r.2 : Int)]) ∧ w'.ownsRow w.heap.size 36 3 v r.1.length (itVs r.1) ∧ Below w.heap.size w w'

theorem read_at (s : ByteArray) (A : Nat) (x : It) (n : Nat) (c : Int) (w : World) (hs : s.size ≤ 10000) (hr : readL (s.data.toList.drop A) = (x, n, c)) :
    Calls Try.prog 22 #[.string (s.extract A s.size)] w fun e w' => e = .returned (.tuple #[.agg #[.int .i64 x.1, .int .i64 x.2.1, .string ⟨x.2.2.toArray⟩], .int .i64 (n : Int), .int .i64 c]) ∧ Below w.heap.size w w' := by
  have := read_it (s.extract A s.size) w (by rw [ByteArray.size_extract]; omega)
  unfold ReadPost at this
  rw [Lib.extract_to_end, hr] at this
  exact this
theorem rread_at (s : ByteArray) (A : Nat) (x : It) (n : Nat) (c : Int) (w : World) (hs : s.size ≤ 10000) (hr : readL (s.data.toList.drop A) = (x, n, c)) :
    Calls Try.prog 23 #[.string (s.extract A s.size)] w fun e w' => e = .returned (.tuple #[.agg #[.int .i64 x.1, .int .i64 x.2.1, .string ⟨x.2.2.toArray⟩], .int .i64 (n : Int), .int .i64 c]) ∧ Below w.heap.size w w' := by
  have := rread_it (s.extract A s.size) w (by rw [ByteArray.size_extract]; omega)
  unfold ReadPost at this
  rw [Lib.extract_to_end, hr] at this
  exact this

set_option maxHeartbeats 1000000 in
theorem scan_it (s : ByteArray) (w : World) (hs : s.size ≤ 10000) : Calls Try.prog 24 #[.string s] w fun e w' => ScanPost (scanS s) w e w' := by
  obtain ⟨i0, hi, hz0, hz1, hz2⟩ := info_parts Try.info36
  have hll := len_l s
  have HLL := Lib.hid hll
  clear hll
  go_enter Try.func24, Try.ntmps24
  go_wp2
  go_step3
  go_wp2
  go_step3
  go_wp2
  go_loopw [4, 5, 6, 7, 8] (fun out i _ _ _ wr => ∃ (O : List It) (A f : Nat), i = .int .i64 (A : Int) ∧ A ≤ s.size ∧ O.length ≤ A ∧ ScanAt s.data.toList O A f ∧ wr.ownsRow w.heap.size 36 3 out O.length (itVs O) ∧ Below w.heap.size w wr) (fun _ i _ _ _ _ => s.size - (intOf i).toNat)
  case atStart => exact ⟨[], 0, _, rfl, by omega, by simp, scanAt_0 _, World.ownsRow_nil _ _ _ _, Below.refl _ _⟩
  case round =>
    obtain ⟨O, A, f, rfl, hA, hO, hsc, hown, hb⟩ := hrel
    have g0 : (0 : Int) ≤ (A : Int) := by omega
    have g1 : (A : Int) ≤ (s.size : Int) := by omega
    obtain ⟨x, n, c, hr⟩ : ∃ x n c, readL (s.data.toList.drop A) = (x, n, c) := ⟨_, _, _, rfl⟩
    have HR := Lib.hid hr
    clear hr
    by_cases hc : c = 0
    · subst hc
      obtain ⟨⟨f', hsc2⟩, hn1, hn2⟩ := scanAt_step hsc HR.out
      rw [HLL.out] at hn2
      go_wp2_with fail
      refine (read_at s A x n 0 _ hs HR.out).mono ?_; rintro e w1 ⟨rfl, hb1⟩
      have hown1 := own_below hown hb1
      have hbb := hb.trans (hb1.mono hb.size)
      have hsz := hbb.size
      clear hown hb hb1
      go_wp2_with (at_builtin; refine wpList_append_own _ rfl _ _ 39 rfl w.heap.size 36 i0 (.agg #[.int .i64 0, .int .i64 0, .string ⟨#[]⟩]) 3 32 Try.underlying39 hi hz0 hz1 hz2 rfl (by decide) _ _ _ rfl ((hown1.alloc _).alloc _) ⟨_, 0, none⟩ 1 1 (itC x) rfl rfl ?c1 (itC_one _) ?c3 ?c4 ?c5 ?_)
      case c1 => exact World.news_of_block (cs := #[.int .i64 x.1, .int .i64 x.2.1, .string ⟨x.2.2.toArray⟩]) (Whole.at_ (by simp))
      case c3 => unfold maxLen; omega
      case c4 => omega
      case c5 => simp; omega
      intro v2 w2 hown2 hgrow2 _
      have hb2 : Below w.heap.size w w2 := ((hbb.alloc hsz _).alloc (by simp; omega) _).grown hgrow2 (by simp; omega) (own_grown_ge hown1)
      have hown3 := itpush hown2
      clear hown1 hown2 hgrow2 hbb
      go_wp2
      exact ⟨⟨O ++ [x], A + n, f', by go_num, by omega, by simp; omega, hsc2, hown3, hb2⟩, by simp [intOf]; omega⟩
    · have hcb : (c != 0) = true := by simpa using hc
      have he := scanAt_end hsc (by rw [HR.out]; exact hc)
      have HE := Lib.hid he
      clear he hc
      go_wp2_with fail
      refine (read_at s A x n c _ hs HR.out).mono ?_; rintro e w1 ⟨rfl, hb1⟩
      have hown1 := own_below hown hb1
      have hbb := hb.trans (hb1.mono hb.size)
      have hsz := hbb.size
      clear hown hb hb1
      go_wp2_with fail
      go_ret2
      unfold ScanPost
      rw [show scanS s = (O, A) from HE.out]
      exact ⟨_, rfl, hown1.alloc _, hbb.alloc hsz _⟩

set_option maxHeartbeats 1000000 in
theorem rscan_it (s : ByteArray) (w : World) (hs : s.size ≤ 10000) : Calls Try.prog 25 #[.string s] w fun e w' => ScanPost (scanS s) w e w' := by
  obtain ⟨i0, hi, hz0, hz1, hz2⟩ := info_parts Try.info36
  have hll := len_l s
  have HLL := Lib.hid hll
  clear hll
  go_enter Try.func25, Try.ntmps25
  go_wp2
  go_loopw [4, 5, 6, 7, 8] (fun out i _ _ _ wr => ∃ (O : List It) (A f : Nat), i = .int .i64 (A : Int) ∧ A ≤ s.size ∧ O.length ≤ A ∧ ScanAt s.data.toList O A f ∧ wr.ownsRow w.heap.size 36 3 out O.length (itVs O) ∧ Below w.heap.size w wr) (fun _ i _ _ _ _ => s.size - (intOf i).toNat)
  case atStart => exact ⟨[], 0, _, rfl, by omega, by simp, scanAt_0 _, World.ownsRow_nil _ _ _ _, Below.refl _ _⟩
  case round =>
    obtain ⟨O, A, f, rfl, hA, hO, hsc, hown, hb⟩ := hrel
    by_cases hlt : A < s.size
    · have g0 : (0 : Int) ≤ (A : Int) := by omega
      have g1 : (A : Int) ≤ (s.size : Int) := by omega
      obtain ⟨x, n, c, hr⟩ : ∃ x n c, readL (s.data.toList.drop A) = (x, n, c) := ⟨_, _, _, rfl⟩
      have HR := Lib.hid hr
      clear hr
      by_cases hc : c = 0
      · subst hc
        obtain ⟨⟨f', hsc2⟩, hn1, hn2⟩ := scanAt_step hsc HR.out
        rw [HLL.out] at hn2
        go_wp2_with fail
        refine (rread_at s A x n 0 _ hs HR.out).mono ?_; rintro e w1 ⟨rfl, hb1⟩
        have hown1 := own_below hown hb1
        have hbb := hb.trans (hb1.mono hb.size)
        have hsz := hbb.size
        clear hown hb hb1
        go_wp2_with (at_builtin; refine wpList_append_own _ rfl _ _ 39 rfl w.heap.size 36 i0 (.agg #[.int .i64 0, .int .i64 0, .string ⟨#[]⟩]) 3 32 Try.underlying39 hi hz0 hz1 hz2 rfl (by decide) _ _ _ rfl ((hown1.alloc _).alloc _) ⟨_, 0, none⟩ 1 1 (itC x) rfl rfl ?c1 (itC_one _) ?c3 ?c4 ?c5 ?_)
        case c1 => exact World.news_of_block (cs := #[.int .i64 x.1, .int .i64 x.2.1, .string ⟨x.2.2.toArray⟩]) (Whole.at_ (by simp))
        case c3 => unfold maxLen; omega
        case c4 => omega
        case c5 => simp; omega
        intro v2 w2 hown2 hgrow2 _
        have hb2 : Below w.heap.size w w2 := ((hbb.alloc hsz _).alloc (by simp; omega) _).grown hgrow2 (by simp; omega) (own_grown_ge hown1)
        have hown3 := itpush hown2
        clear hown1 hown2 hgrow2 hbb
        go_wp2
        exact ⟨⟨O ++ [x], A + n, f', by go_num, by omega, by simp; omega, hsc2, hown3, hb2⟩, by simp [intOf]; omega⟩
      · have hcb : (c != 0) = true := by simpa using hc
        have he := scanAt_end hsc (by rw [HR.out]; exact hc)
        have HE := Lib.hid he
        clear he hc
        go_wp2_with fail
        refine (rread_at s A x n c _ hs HR.out).mono ?_; rintro e w1 ⟨rfl, hb1⟩
        have hown1 := own_below hown hb1
        have hbb := hb.trans (hb1.mono hb.size)
        have hsz := hbb.size
        clear hown hb hb1
        go_wp2_with fail
        go_ret2
        unfold ScanPost
        rw [show scanS s = (O, A) from HE.out]
        exact ⟨_, rfl, hown1.alloc _, hbb.alloc hsz _⟩
    · have he := scanAt_end hsc (by rw [List.drop_of_length_le (by rw [HLL.out]; omega), rd_empty rfl]; decide)
      have HE := Lib.hid he
      clear he
      go_wp2_with fail
      go_ret2
      unfold ScanPost
      rw [show scanS s = (O, A) from HE.out]
      exact ⟨_, rfl, hown, hb⟩

/-! ### Same -/
def RdT (w : World) (A : Option Addr) (l : List It) : Prop := ∀ k (hk : k < l.length), ∃ g, A = some ⟨g, 0, none⟩ ∧ w.cell? ⟨g, k * 3, none⟩ = some (.int .i64 l[k].1) ∧ w.cell? ⟨g, k * 3 + 1, none⟩ = some (.int .i64 l[k].2.1) ∧ w.cell? ⟨g, k * 3 + 2, none⟩ = some (.string ⟨l[k].2.2.toArray⟩)
theorem rdt_of {w : World} {b n : Nat} {v : Value} {l : List It} (hn : l.length = n) (h : w.ownsRow b 36 3 v n (itVs l)) : ∃ A c, v = .slice A n c ∧ n ≤ maxLen ∧ RdT w A l := by
  subst hn
  obtain ⟨A, c, rfl, hm, _, _, ha⟩ := own_form h
  refine ⟨A, c, rfl, hm, fun k hk => ?_⟩
  obtain ⟨g, rfl, _, _, hc⟩ := ha k hk (by omega)
  obtain ⟨l1, l2, l3⟩ := itVs_at l k hk
  exact ⟨g, rfl, (hc (k * 3) (by omega)).trans l1, (hc (k * 3 + 1) (by omega)).trans l2, (hc (k * 3 + 2) (by omega)).trans l3⟩

set_option maxHeartbeats 1000000 in
theorem same_rd (A B : Option Addr) (n ca cb : Nat) (l : List It) (w : World) (hn : l.length = n) (hm : n ≤ maxLen) (h1 : RdT w A l) (h2 : RdT w B l) :
    Calls Try.prog 26 #[.slice A n ca, .slice B n cb] w fun e w' => e = .returned (.bool true) ∧ Below w.heap.size w w' := by
  subst hn
  have HA := Lib.hid h1
  have HB := Lib.hid h2
  clear h1 h2
  unfold maxLen at hm
  have hne : ((l.length : Int) != (l.length : Int)) = false := by simp
  go_enter Try.func26, Try.ntmps26
  go_wp2
  go_loopw [5] (fun i wr => ∃ k : Nat, k ≤ l.length ∧ i = .int .i64 k ∧ ∃ n, wr = w.drewN n) (fun i _ => l.length - (intOf i).toNat)
  case atStart => exact ⟨0, by omega, rfl, 0, rfl⟩
  case round =>
    obtain ⟨k, hk, rfl, n, rfl⟩ := hrel
    by_cases hlt : k < l.length
    · obtain ⟨g1, rfl, d1, d2, d3⟩ := HA.out k hlt
      obtain ⟨g2, rfl, e1, e2, e3⟩ := HB.out k hlt
      clear HA HB
      generalize l[k] = p at *
      have g0 : (0 : Int) ≤ (k : Int) := by omega
      have g3 : (k : Int) < (l.length : Int) := by omega
      go_wp2
      go_quiet (fail)
      go_wp2
      exact ⟨⟨k + 1, by omega, by go_num, _, rfl⟩, by simp [intOf]; omega⟩
    · go_wp2
      go_ret
      exact ⟨rfl, drawnN (Below.refl _ _) n⟩

theorem same_it (b1 b2 n : Nat) (v1 v2 : Value) (l : List It) (w : World) (hn : l.length = n) (h1 : w.ownsRow b1 36 3 v1 n (itVs l)) (h2 : w.ownsRow b2 36 3 v2 n (itVs l)) :
    Calls Try.prog 26 #[v1, v2] w fun e w' => e = .returned (.bool true) ∧ Below w.heap.size w w' := by
  obtain ⟨A, ca, rfl, hm, ha⟩ := rdt_of hn h1
  obtain ⟨B, cb, rfl, _, hb⟩ := rdt_of hn h2
  exact same_rd A B n ca cb l w hn hm ha hb

end Go.Proofs.Ytgoeabkoljabkaa
