/- Plain laws of the sums of bytes: no program in sight. -/
namespace Go.Proofs.Ytgoeabkoljabkaa

def sOn (h : Int) (c : Int) : Int := (h * 257 + c + 1) % 2147483647
def sAll (h : Int) (l : List UInt8) : Int := l.foldl (fun h c => sOn h c.toNat) h
def InP (h : Int) : Prop := 0 ≤ h ∧ h < 2147483647

theorem sOn_in (h c : Int) : InP (sOn h c) := by unfold sOn InP; omega
theorem sAll_in {h : Int} (hh : InP h) (l : List UInt8) : InP (sAll h l) := by
  induction l generalizing h with
  | nil => exact hh
  | cons c l ih => exact ih (sOn_in _ _)
theorem sAll_0 (l : List UInt8) : InP (sAll 0 l) := sAll_in ⟨by omega, by omega⟩ l
theorem sAll_cons (h : Int) (c : UInt8) (l : List UInt8) : sAll h (c :: l) = sAll (sOn h c.toNat) l := rfl
theorem sAll_append (h : Int) (l m : List UInt8) : sAll h (l ++ m) = sAll (sAll h l) m := by unfold sAll; rw [List.foldl_append]
theorem sAll_snoc (h : Int) (l : List UInt8) (c : UInt8) : sAll h (l ++ [c]) = sOn (sAll h l) c.toNat := by rw [sAll_append]; rfl

theorem sOn_inj {h h' c : Int} (a : InP h) (b : InP h') (e : sOn h c = sOn h' c) : h = h' := by unfold sOn InP at *; omega
theorem sOn_inj' {h c c' : Int} (c0 : 0 ≤ c) (c1 : c ≤ 255) (d0 : 0 ≤ c') (d1 : c' ≤ 255) (e : sOn h c = sOn h c') : c = c' := by unfold sOn at *; omega
theorem sAll_inj {h h' : Int} (a : InP h) (b : InP h') (l : List UInt8) (e : sAll h l = sAll h' l) : h = h' := by
  induction l generalizing h h' with
  | nil => exact e
  | cons c l ih => exact sOn_inj a b (ih (sOn_in _ _) (sOn_in _ _) e)

theorem u8_le (c : UInt8) : 0 ≤ (c.toNat : Int) ∧ (c.toNat : Int) ≤ 255 := by have := UInt8.toNat_lt c; omega
theorem u8_eq {c d : UInt8} (h : (c.toNat : Int) = d.toNat) : c = d := UInt8.toNat_inj.1 (by omega)

/-- A byte that was turned is found. -/
theorem turned (p q : List UInt8) (x y : UInt8) : sAll 0 (p ++ x :: q) = sAll 0 (p ++ y :: q) ↔ x = y := by
  constructor
  · intro e
    rw [sAll_append, sAll_append, sAll_cons, sAll_cons] at e
    have e1 := sAll_inj (sOn_in _ _) (sOn_in _ _) q e
    exact u8_eq (sOn_inj' (u8_le x).1 (u8_le x).2 (u8_le y).1 (u8_le y).2 e1)
  · rintro rfl; rfl

/-- Two neighbours that changed places are found, if they are unlike. -/
theorem changed (p q : List UInt8) (x y : UInt8) : sAll 0 (p ++ y :: x :: q) = sAll 0 (p ++ x :: y :: q) ↔ x = y := by
  constructor
  · intro e
    rw [sAll_append, sAll_append, sAll_cons, sAll_cons, sAll_cons, sAll_cons] at e
    have e1 := sAll_inj (sOn_in _ _) (sOn_in _ _) q e
    have hx := u8_le x
    have hy := u8_le y
    have h0 := sAll_0 p
    refine u8_eq ?_
    unfold sOn InP at *
    omega
  · rintro rfl; rfl

/-! ### How a sum goes on -/
def pw : Nat → Int
  | 0 => 1
  | n + 1 => 257 * pw n % 2147483647
theorem pw_in (n : Nat) : InP (pw n) := by
  cases n with
  | zero => exact ⟨by decide, by decide⟩
  | succ n => unfold pw InP; omega

theorem mul_mod_l (a b m : Int) : a % m * b % m = a * b % m := by rw [Int.mul_emod (a % m), Int.emod_emod_of_dvd _ (Int.dvd_refl m), ← Int.mul_emod]
theorem mul_mod_r (a b m : Int) : a * (b % m) % m = a * b % m := by rw [Int.mul_comm, mul_mod_l, Int.mul_comm]
theorem add_mod_l (a b m : Int) : (a % m + b) % m = (a + b) % m := by rw [Int.add_emod, Int.emod_emod_of_dvd _ (Int.dvd_refl m), ← Int.add_emod]
theorem add_mod_r (a b m : Int) : (a + b % m) % m = (a + b) % m := by rw [Int.add_comm, add_mod_l, Int.add_comm]

theorem pw_add (n m : Nat) : pw (n + m) = pw n * pw m % 2147483647 := by
  induction m with
  | zero => have := pw_in n; simp only [Nat.add_zero, pw, Int.mul_one]; unfold InP at this; omega
  | succ m ih =>
    rw [← Nat.add_assoc]; simp only [pw]
    rw [ih, mul_mod_r, mul_mod_r]
    congr 1
    rw [Int.mul_left_comm]

/-- 'h' so many bytes on. -/
theorem sAll_eq {h : Int} (hh : InP h) (l : List UInt8) : sAll h l = (h * pw l.length + sAll 0 l) % 2147483647 := by
  have gen : ∀ (l : List UInt8) (h : Int), InP h → sAll h l = (h * pw l.length + sAll 0 l) % 2147483647 := by
    intro l
    -- over the reversed list: the last byte first
    have rev : ∀ (r : List UInt8) (h : Int), InP h → sAll h r.reverse = (h * pw r.length + sAll 0 r.reverse) % 2147483647 := by
      intro r
      induction r with
      | nil => intro h hh; simp only [List.reverse_nil, List.length_nil, pw, Int.mul_one]; unfold InP at hh; show h = (h + 0) % _; omega
      | cons c r ih =>
        intro h hh
        simp only [List.reverse_cons, sAll_snoc, List.length_cons]
        rw [ih h hh]
        unfold sOn
        rw [add_mod_r, Int.add_assoc, ← add_mod_l (_ % _ * 257), mul_mod_l, add_mod_l, pw]
        rw [← add_mod_l (h * (257 * pw r.length % 2147483647)), mul_mod_r, add_mod_l]
        congr 1
        rw [Int.add_mul, show h * (257 * pw r.length) = h * pw r.length * 257 from by rw [Int.mul_comm 257, Int.mul_assoc]]
        omega
    intro h hh
    have := rev l.reverse h hh
    simpa using this
  exact gen l h hh

/-! ### A power, by halves -/
def pm (b : Int) : Nat → Int
  | 0 => 1
  | n + 1 => b * pm b n % 2147483647
theorem pm_in (b : Int) (n : Nat) : InP (pm b n) := by
  cases n with
  | zero => exact ⟨by simp [pm], by simp [pm]⟩
  | succ n => unfold pm InP; omega
theorem pm_pw (n : Nat) : pm 257 n = pw n := by
  induction n with
  | zero => rfl
  | succ n ih => simp only [pm, pw, ih]
theorem pm_two (b : Int) (n : Nat) : pm b (2 * n) = pm (b * b % 2147483647) n := by
  induction n with
  | zero => rfl
  | succ n ih =>
    rw [show 2 * (n + 1) = 2 * n + 1 + 1 from by omega]
    simp only [pm]
    rw [ih, mul_mod_r, mul_mod_l, Int.mul_assoc]
theorem pm_even {o b : Int} {m : Nat} (h : m % 2 = 0) : o * pm (b * b % 2147483647) (m / 2) % 2147483647 = o * pm b m % 2147483647 := by
  rw [← pm_two, show 2 * (m / 2) = m from by omega]
theorem pm_odd {o b : Int} {m : Nat} (h : m % 2 = 1) : o * b % 2147483647 * pm (b * b % 2147483647) (m / 2) % 2147483647 = o * pm b m % 2147483647 := by
  rw [← pm_two, mul_mod_l]
  have : m = 2 * (m / 2) + 1 := by omega
  generalize m / 2 = k at *
  subst this
  simp only [pm]
  rw [mul_mod_r, Int.mul_assoc]
theorem mul_in {a b : Int} (ha : InP a) (hb : InP b) : 0 ≤ a * b ∧ a * b ≤ 4611686014132420609 := by
  obtain ⟨a0, a1⟩ := ha
  obtain ⟨b0, b1⟩ := hb
  refine ⟨Int.mul_nonneg a0 b0, ?_⟩
  have h1 : a * b ≤ 2147483647 * b := Int.mul_le_mul_of_nonneg_right (by omega) b0
  omega
theorem one_mod {a : Int} (ha : InP a) : 1 * a % 2147483647 = a := by unfold InP at ha; omega

theorem joined (s t : List UInt8) : sAll 0 (s ++ t) = (sAll 0 s * pw t.length + sAll 0 t) % 2147483647 := by
  rw [sAll_append]; exact sAll_eq (sAll_0 s) t

/-! ### A number of four bytes, and the four bytes of a number -/
def num4 (l : List UInt8) : Int := l.foldl (fun n c => n * 256 + c.toNat) 0
theorem num4_snoc (l : List UInt8) (c : UInt8) : num4 (l ++ [c]) = num4 l * 256 + c.toNat := by unfold num4; rw [List.foldl_append]; rfl
theorem num4_of (a b c d : UInt8) : num4 [a, b, c, d] = ((((a.toNat : Int) * 256 + b.toNat) * 256 + c.toNat) * 256 + d.toNat) := by simp [num4]

/-- The bytes of a sum. -/
def putL (n : Int) : List UInt8 := [UInt8.ofNat (n / 16777216).toNat, UInt8.ofNat (n / 65536 % 256).toNat, UInt8.ofNat (n / 256 % 256).toNat, UInt8.ofNat (n % 256).toNat]
theorem u8_of (x : Int) (a : 0 ≤ x) (c : x ≤ 255) : ((UInt8.ofNat x.toNat).toNat : Int) = x := by
  rw [UInt8.toNat_ofNat', Nat.mod_eq_of_lt (by omega)]; omega
theorem num4_putL (n : Int) (h0 : 0 ≤ n) (h1 : n < 4294967296) : num4 (putL n) = n := by
  unfold putL
  rw [num4_of, u8_of _ (by omega) (by omega), u8_of _ (by omega) (by omega), u8_of _ (by omega) (by omega), u8_of _ (by omega) (by omega)]
  omega
theorem u8_back (c : UInt8) (x : Int) (h : x = c.toNat) : UInt8.ofNat x.toNat = c := by subst h; simp
theorem putL_num4 (l : List UInt8) (h : l.length = 4) : putL (num4 l) = l := by
  match l, h with
  | [a, b, c, d], _ =>
    have ha := u8_le a
    have hb := u8_le b
    have hc := u8_le c
    have hd := u8_le d
    rw [num4_of]
    unfold putL
    rw [u8_back a _ (by omega), u8_back b _ (by omega), u8_back c _ (by omega), u8_back d _ (by omega)]
theorem num4_in (l : List UInt8) (h : l.length = 4) : 0 ≤ num4 l := by
  match l, h with
  | [a, b, c, d], _ => rw [num4_of]; have ha := u8_le a; have hb := u8_le b; have hc := u8_le c; have hd := u8_le d; omega
theorem putL_inj {n : Int} {l : List UInt8} (h0 : InP n) (hl : l.length = 4) : putL n = l ↔ n = num4 l := by
  obtain ⟨h0, h1⟩ := h0
  constructor
  · rintro rfl; exact (num4_putL n h0 (by omega)).symm
  · rintro rfl; exact putL_num4 l hl
theorem putL_length (n : Int) : (putL n).length = 4 := rfl

/-- Does a text end with the sum of what is ahead? -/
def fitsB (l : List UInt8) : Bool := decide (4 ≤ l.length) && (putL (sAll 0 (l.take (l.length - 4))) == l.drop (l.length - 4))
theorem fitsB_eq (l : List UInt8) (h : 4 ≤ l.length) : fitsB l = (sAll 0 (l.take (l.length - 4)) == num4 (l.drop (l.length - 4))) := by
  have hd : (l.drop (l.length - 4)).length = 4 := by rw [List.length_drop]; omega
  unfold fitsB
  rw [decide_eq_true h, Bool.true_and, Bool.eq_iff_iff, beq_iff_eq, beq_iff_eq]
  exact putL_inj (sAll_0 _) hd
theorem fitsB_put (l : List UInt8) : fitsB (l ++ putL (sAll 0 l)) = true := by
  unfold fitsB
  simp [putL_length]

end Go.Proofs.Ytgoeabkoljabkaa
