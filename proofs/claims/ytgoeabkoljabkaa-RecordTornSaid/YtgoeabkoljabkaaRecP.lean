/- Plain laws of records: no program in sight. -/
import Derived.Test.YtgoeabkoljabkaaSumP
namespace Go.Proofs.Ytgoeabkoljabkaa

/-- A number's lowest bytes, the highest first. -/
def be : Nat → Int → List UInt8
  | 0, _ => []
  | k + 1, n => be k (n / 256) ++ [UInt8.ofNat (n % 256).toNat]
theorem be_len (k : Nat) (n : Int) : (be k n).length = k := by
  induction k generalizing n with
  | zero => rfl
  | succ k ih => simp [be, ih]
theorem be_cons (k : Nat) (n : Int) : be (k + 1) n = UInt8.ofNat (n / 256 ^ k % 256).toNat :: be k n := by
  induction k generalizing n with
  | zero => simp [be]
  | succ k ih =>
    conv => lhs; unfold be
    rw [ih, be, List.cons_append]
    congr 3
    rw [Int.ediv_ediv_of_nonneg (by omega), Int.pow_succ, Int.mul_comm]
theorem num4_be (k : Nat) (n : Int) (h : 0 ≤ n) : num4 (be k n) = n % 256 ^ k := by
  induction k generalizing n with
  | zero => simp [be, num4]
  | succ k ih =>
    rw [be, num4_snoc, ih (n / 256) (by omega), u8_of _ (by omega) (by omega), Int.pow_succ]
    have hP : (0 : Int) < 256 ^ k := Int.pow_pos (by decide)
    generalize (256 : Int) ^ k = P at *
    have h1 := Int.emod_nonneg (n / 256) (show P ≠ 0 by omega)
    have h2 := Int.emod_lt_of_pos (n / 256) hP
    have h3 := Int.mul_ediv_add_emod (n / 256) P
    have h4 : P * 256 * (n / 256 / P) = P * (n / 256 / P) * 256 := Int.mul_right_comm ..
    have key : n = (n / 256 % P * 256 + n % 256) + P * 256 * (n / 256 / P) := by rw [h4]; omega
    have e : n % (P * 256) = ((n / 256 % P * 256 + n % 256) + P * 256 * (n / 256 / P)) % (P * 256) := congrArg (· % (P * 256)) key
    have hlt : n / 256 % P * 256 + n % 256 < P * 256 := by omega
    have hge : 0 ≤ n / 256 % P * 256 + n % 256 := by omega
    rw [e, Int.add_mul_emod_self_left]
    exact (Int.emod_eq_of_lt hge hlt).symm
theorem be_num4 (l : List UInt8) : ∀ k, l.length = k → be k (num4 l) = l := by
  intro k
  induction k generalizing l with
  | zero => intro h; have := List.eq_nil_of_length_eq_zero h; subst this; rfl
  | succ k ih =>
    intro h
    have hl : l ≠ [] := by rintro rfl; simp at h
    have e := List.dropLast_concat_getLast hl
    generalize l.dropLast = m at *
    generalize l.getLast hl = c at *
    subst e
    have hm : m.length = k := by simpa using h
    have hc := u8_le c
    rw [num4_snoc, be, show (num4 m * 256 + (c.toNat : Int)) / 256 = num4 m from by omega, ih m hm, u8_back c _ (by omega)]
theorem num4_nn (l : List UInt8) : 0 ≤ num4 l ∧ num4 l < 256 ^ l.length := by
  have gen : ∀ r : List UInt8, 0 ≤ num4 r.reverse ∧ num4 r.reverse < 256 ^ r.length := by
    intro r
    induction r with
    | nil => exact ⟨by simp [num4], by simp [num4]⟩
    | cons c r ih =>
      have hc := u8_le c
      rw [List.reverse_cons, num4_snoc, List.length_cons, Int.pow_succ]
      omega
  have := gen l.reverse
  simpa using this

/-- Why an item may not be. -/
def chk (k a : Int) (n : Nat) : Int := if k < 1 ∨ 15 < k then 1 else if a < 0 ∨ 1099511627776 < a then 2 else if 4096 < n then 5 else 0
theorem chk_zero {k a : Int} {n : Nat} (h : chk k a n = 0) : 1 ≤ k ∧ k ≤ 15 ∧ 0 ≤ a ∧ a ≤ 1099511627776 ∧ n ≤ 4096 := by
  unfold chk at h
  split at h
  · cases h
  · split at h
    · cases h
    · split at h
      · cases h
      · omega
theorem chk_of {k a : Int} {n : Nat} (h1 : 1 ≤ k) (h2 : k ≤ 15) (h3 : 0 ≤ a) (h4 : a ≤ 1099511627776) (h5 : n ≤ 4096) : chk k a n = 0 := by
  unfold chk
  rw [if_neg (by omega), if_neg (by omega), if_neg (by omega)]

/-- An item: its kind, when, what it says. -/
abbrev It := Int × Int × List UInt8
def headL (x : It) : List UInt8 := 87 :: UInt8.ofNat (x.1 % 256).toNat :: (be 6 x.2.1 ++ be 2 x.2.2.length)
def fullL (x : It) : List UInt8 := headL x ++ x.2.2 ++ putL (sAll 0 (headL x ++ x.2.2))
theorem headL_len (x : It) : (headL x).length = 10 := by simp [headL, be_len]
theorem fullL_len (x : It) : (fullL x).length = 14 + x.2.2.length := by simp [fullL, headL_len, putL_length]; omega
/-- An item's bytes, and why there are none. -/
def putI (x : It) : List UInt8 × Int := if chk x.1 x.2.1 x.2.2.length = 0 then (fullL x, 0) else ([], chk x.1 x.2.1 x.2.2.length)

def none_ (c : Int) : It × Nat × Int := ((0, 0, []), 0, c)
def kdL (l : List UInt8) : Int := ((l.drop 1).headD 0).toNat
def atL (l : List UInt8) : Int := num4 ((l.drop 2).take 6)
def lnL (l : List UInt8) : Nat := (num4 ((l.drop 8).take 2)).toNat
/-- The item that bytes begin with. -/
def readL (l : List UInt8) : It × Nat × Int :=
  if l = [] then none_ 13
  else if l.headD 0 ≠ 87 then none_ 3
  else if l.length < 10 then none_ 13
  else if chk (kdL l) (atL l) 0 ≠ 0 then none_ (chk (kdL l) (atL l) 0)
  else if 4096 < lnL l then none_ 5
  else if l.length < 14 + lnL l then none_ 13
  else if fitsB (l.take (14 + lnL l)) = false then none_ 4
  else ((kdL l, atL l, (l.drop 10).take (lnL l)), 14 + lnL l, 0)

theorem readL_n (l : List UInt8) : (readL l).2.2 = 0 → 14 ≤ (readL l).2.1 ∧ (readL l).2.1 ≤ l.length := by
  unfold readL
  intro h
  repeat' split at h
  all_goals first | (simp [none_] at h; done) | skip
  · rename_i h4; simp only [none_] at h; exact absurd h h4
  · rename_i h0 h1 h2 h3 h4 h5 h6
    rw [if_neg h0, if_neg h1, if_neg h2, if_neg h3, if_neg h4, if_neg h5, if_neg h6]
    simp only; omega
theorem readL_0 (l : List UInt8) : (readL l).2.2 ≠ 0 → readL l = none_ (readL l).2.2 := by
  unfold readL
  intro h
  repeat' split
  all_goals first | rfl | skip
  all_goals
    rename_i h0 h1 h2 h3 h4 h5 h6
    rw [if_neg h0, if_neg h1, if_neg h2, if_neg h3, if_neg h4, if_neg h5, if_neg h6] at h
    exact absurd rfl h

/-- The items that bytes begin with, and how many bytes these have. -/
def scanL : Nat → List UInt8 → List It × Nat
  | 0, _ => ([], 0)
  | f + 1, l => if (readL l).2.2 = 0 then ((readL l).1 :: (scanL f (l.drop (readL l).2.1)).1, (readL l).2.1 + (scanL f (l.drop (readL l).2.1)).2) else ([], 0)

/-- The first bytes of a text whose length is told are those of the item that is told there. -/
theorem head_back (l : List UInt8) (h : 10 ≤ l.length) (h87 : l.headD 0 = 87) (b : List UInt8) (hb : b.length = lnL l) : headL (kdL l, atL l, b) = l.take 10 := by
  match l, h with
  | [], h => simp at h
  | [_], h => simp at h
  | c0 :: c1 :: m, h =>
    simp only [List.headD_cons] at h87
    subst h87
    have hm : 8 ≤ m.length := by simp at h; omega
    have e1 : be 6 (atL (87 :: c1 :: m)) = m.take 6 := by
      unfold atL
      exact be_num4 _ 6 (by simp; omega)
    have e2 : be 2 (b.length : Int) = (m.drop 6).take 2 := by
      rw [hb]
      unfold lnL
      have := num4_nn ((List.drop 8 (87 :: c1 :: m)).take 2)
      rw [Int.toNat_of_nonneg this.1]
      exact be_num4 _ 2 (by simp; omega)
    have e3 : UInt8.ofNat (kdL (87 :: c1 :: m) % 256).toNat = c1 := by
      have := u8_le c1
      exact u8_back c1 _ (by simp [kdL]; omega)
    unfold headL
    simp only
    rw [e1, e2, e3]
    rw [show (87 :: c1 :: m).take 10 = 87 :: c1 :: m.take 8 from rfl, show (8 : Nat) = 6 + 2 from rfl, List.take_add]

/-- What is told by a sum is told by all the bytes, and the other way round. -/
theorem full_back (l : List UInt8) (n : Nat) (hn : n = lnL l) (h : 14 + n ≤ l.length) (h87 : l.headD 0 = 87) : (fitsB (l.take (14 + n)) = true) ↔ l.take (14 + n) = fullL (kdL l, atL l, (l.drop 10).take n) := by
  have hb : ((l.drop 10).take n).length = lnL l := by rw [List.length_take, List.length_drop]; omega
  have e := head_back l (by omega) h87 _ hb
  unfold fullL
  rw [e]
  have e2 : l.take 10 ++ (l.drop 10).take n = l.take (10 + n) := by rw [List.take_add]
  simp only
  rw [e2]
  have e3 : l.take (14 + n) = l.take (10 + n) ++ (l.drop (10 + n)).take 4 := by rw [show 14 + n = (10 + n) + 4 from by omega, List.take_add]
  have h4 : ((l.drop (10 + n)).take 4).length = 4 := by rw [List.length_take, List.length_drop]; omega
  have hl : (l.take (10 + n)).length = 10 + n := by rw [List.length_take]; omega
  rw [e3]
  generalize l.take (10 + n) = p at *
  generalize (l.drop (10 + n)).take 4 = q at *
  have e5 : (p ++ q).length - 4 = p.length := by rw [List.length_append]; omega
  unfold fitsB
  rw [e5, List.take_left, List.drop_left, decide_eq_true (by rw [List.length_append]; omega), Bool.true_and, beq_iff_eq]
  constructor
  · intro e; rw [e]
  · intro e; exact (List.append_cancel_left e).symm

/-- An item's bytes are read back. -/
theorem read_full (x : It) (r : List UInt8) (h : chk x.1 x.2.1 x.2.2.length = 0) : readL (fullL x ++ r) = (x, 14 + x.2.2.length, 0) := by
  obtain ⟨k, a, b⟩ := x
  obtain ⟨h1, h2, h3, h4, h5⟩ := chk_zero h
  simp only at h1 h2 h3 h4 h5
  have e0 : fullL (k, a, b) ++ r = 87 :: UInt8.ofNat (k % 256).toNat :: (be 6 a ++ (be 2 b.length ++ (b ++ (putL (sAll 0 (headL (k, a, b) ++ b)) ++ r)))) := by
    simp [fullL, headL]
  have l6 := be_len 6 a
  have l2 := be_len 2 (b.length : Int)
  have hl : (fullL (k, a, b) ++ r).length = 14 + b.length + r.length := by rw [List.length_append, fullL_len]
  have n6 : num4 (be 6 a) = a := by rw [num4_be 6 a h3]; omega
  have n2 : num4 (be 2 (b.length : Int)) = b.length := by rw [num4_be 2 _ (by omega)]; omega
  generalize be 6 a = p at *
  generalize be 2 (b.length : Int) = q at *
  generalize putL (sAll 0 (headL (k, a, b) ++ b)) ++ r = t at *
  have hk : kdL (fullL (k, a, b) ++ r) = k := by
    rw [e0]; show ((UInt8.ofNat (k % 256).toNat).toNat : Int) = k
    rw [u8_of _ (by omega) (by omega)]; omega
  have ha : atL (fullL (k, a, b) ++ r) = a := by
    rw [e0]; unfold atL
    show num4 ((p ++ (q ++ (b ++ t))).take 6) = a
    rw [List.take_append_of_le_length (by omega), List.take_of_length_le (by omega), n6]
  have hn : lnL (fullL (k, a, b) ++ r) = b.length := by
    rw [e0]; unfold lnL
    show (num4 (((p ++ (q ++ (b ++ t))).drop 6).take 2)).toNat = b.length
    rw [List.drop_left' l6, List.take_append_of_le_length (by omega), List.take_of_length_le (by omega), n2]
    omega
  have hb : ((fullL (k, a, b) ++ r).drop 10).take b.length = b := by
    rw [e0]
    show ((p ++ (q ++ (b ++ t))).drop 8).take b.length = b
    rw [← List.append_assoc, List.drop_left' (by rw [List.length_append]; omega), List.take_left]
  have ht : (fullL (k, a, b) ++ r).take (14 + b.length) = fullL (k, a, b) := by
    rw [List.take_append_of_le_length (by rw [fullL_len]; exact Nat.le_refl _), List.take_of_length_le (by rw [fullL_len]; exact Nat.le_refl _)]
  have hf : fitsB (fullL (k, a, b)) = true := by unfold fullL; exact fitsB_put _
  unfold readL
  rw [if_neg (by rw [e0]; simp), if_neg (by rw [e0]; simp), if_neg (by omega), hk, ha, if_neg (by rw [chk_of h1 h2 h3 h4 (by omega)]; simp), hn, if_neg (by omega), if_neg (by omega), ht, hf, if_neg (by simp), hb]

end Go.Proofs.Ytgoeabkoljabkaa
