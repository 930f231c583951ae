/- Plain words of the lines that somebody types: no program in sight. -/
namespace Go.Proofs.Ytdgbhbifeohfjaa

def rightB (c : UInt8) : Bool := (decide (32 ≤ c.toNat) && decide (c.toNat ≤ 126)) || (c == 9)
/-- Without the carriage return behind. -/
def strip (p : List UInt8) : List UInt8 := if p.getLast? = some 13 then p.dropLast else p
def lineOf (m : Nat) (p : List UInt8) : List UInt8 × Int := if m < (strip p).length then ([], 5) else if (strip p).all rightB then (strip p, 0) else ([], 3)
/-- The lines that end in bytes, and what waits behind the last one; 'p' waits already. -/
def fd (m : Nat) : List UInt8 → List UInt8 → List (List UInt8 × Int) × List UInt8
  | p, [] => ([], p)
  | p, c :: s => if c = 10 then (lineOf m p :: (fd m [] s).1, (fd m [] s).2) else fd m (p ++ [c]) s

theorem fd_append (m : Nat) (a b : List UInt8) : ∀ p, fd m p (a ++ b) = ((fd m p a).1 ++ (fd m (fd m p a).2 b).1, (fd m (fd m p a).2 b).2) := by
  induction a with
  | nil => intro p; simp [fd]
  | cons c a ih =>
    intro p
    by_cases h : c = 10
    · simp only [List.cons_append, fd, if_pos h]; rw [ih]
    · simp only [List.cons_append, fd, if_neg h]; rw [ih]
theorem fd_snoc (m : Nat) (p a : List UInt8) (c : UInt8) : fd m p (a ++ [c]) = if c = 10 then ((fd m p a).1 ++ [lineOf m (fd m p a).2], []) else ((fd m p a).1, (fd m p a).2 ++ [c]) := by
  rw [fd_append]
  by_cases h : c = 10 <;> simp [fd, h]
theorem fd_none (m : Nat) (a : List UInt8) (h : ∀ c ∈ a, c ≠ 10) : ∀ p, fd m p a = ([], p ++ a) := by
  induction a with
  | nil => intro p; simp [fd]
  | cons c a ih =>
    intro p
    have hc : c ≠ 10 := h c (by simp)
    simp only [fd, if_neg hc]
    rw [ih (fun x hx => h x (by simp [hx]))]
    simp
theorem fd_bad (m : Nat) (bad s : List UInt8) (h : ∀ c ∈ bad, c ≠ 10) : fd m [] (bad ++ [10] ++ s) = (lineOf m bad :: (fd m [] s).1, (fd m [] s).2) := by
  rw [fd_append, fd_snoc, fd_none m bad h]
  simp
theorem fd_length (m : Nat) (s : List UInt8) : ∀ p, (fd m p s).1.length ≤ s.length ∧ (fd m p s).2.length ≤ p.length + s.length := by
  induction s with
  | nil => intro p; simp [fd]
  | cons c s ih =>
    intro p
    by_cases h : c = 10
    · have := ih []
      simp only [fd, if_pos h, List.length_cons] at this ⊢
      simp only [List.length_nil] at this
      omega
    · have := ih (p ++ [c])
      simp only [fd, if_neg h, List.length_cons, List.length_append, List.length_nil] at this ⊢
      omega

/-- What of a line that is begun is held: as far as it counts. -/
def heldL (m : Nat) (p : List UInt8) : List UInt8 := p.take (m + 1)
def heldO (m : Nat) (p : List UInt8) : Bool := decide (m + 1 < p.length)
theorem held_length (m : Nat) (p : List UInt8) : (heldL m p).length = min p.length (m + 1) := by unfold heldL; rw [List.length_take, Nat.min_comm]
theorem held_full {m : Nat} {p : List UInt8} {c : UInt8} (h : m < (heldL m p).length) : heldL m (p ++ [c]) = heldL m p ∧ heldO m (p ++ [c]) = true := by
  rw [held_length] at h
  have hp : m + 1 ≤ p.length := by omega
  constructor
  · unfold heldL; rw [List.take_append_of_le_length hp]
  · unfold heldO; rw [decide_eq_true_iff, List.length_append]; simp; omega
theorem held_more {m : Nat} {p : List UInt8} {c : UInt8} (h : (heldL m p).length ≤ m) : heldL m (p ++ [c]) = heldL m p ++ [c] ∧ heldO m (p ++ [c]) = heldO m p := by
  rw [held_length] at h
  have hp : p.length ≤ m := by omega
  constructor
  · unfold heldL; rw [List.take_of_length_le (by rw [List.length_append]; simp; omega), List.take_of_length_le (by omega)]
  · unfold heldO
    have e1 : decide (m + 1 < (p ++ [c]).length) = false := by rw [decide_eq_false_iff_not, List.length_append]; simp; omega
    have e2 : decide (m + 1 < p.length) = false := by rw [decide_eq_false_iff_not]; omega
    rw [e1, e2]
theorem strip_length (p : List UInt8) : p.length - 1 ≤ (strip p).length ∧ (strip p).length ≤ p.length := by
  unfold strip; split <;> (try rw [List.length_dropLast]) <;> omega
/-- The line that ended, told of what is held of it. -/
theorem line_over {m : Nat} {p : List UInt8} (h : heldO m p = true) : lineOf m p = ([], 5) := by
  unfold heldO at h
  rw [decide_eq_true_iff] at h
  have := (strip_length p).1
  unfold lineOf; rw [if_pos (by omega)]
theorem line_held {m : Nat} {p : List UInt8} (h : heldO m p = false) : heldL m p = p := by
  unfold heldO at h
  rw [decide_eq_false_iff_not] at h
  unfold heldL; rw [List.take_of_length_le (by omega)]

theorem line_size {m : Nat} {p : List UInt8} (h : m < (strip p).length) : lineOf m p = ([], 5) := by unfold lineOf; rw [if_pos h]
theorem line_good {m : Nat} {p : List UInt8} (h : (strip p).length ≤ m) (k : ∀ j, (hj : j < (strip p).length) → rightB ((strip p)[j]) = true) : lineOf m p = (strip p, 0) := by
  unfold lineOf
  rw [if_neg (by omega), if_pos]
  rw [List.all_eq_true]
  intro x hx
  obtain ⟨j, hj, rfl⟩ := List.getElem_of_mem hx
  exact k j hj
theorem line_bad {m : Nat} {p : List UInt8} (h : (strip p).length ≤ m) (j : Nat) (hj : j < (strip p).length) (k : rightB ((strip p)[j]) = false) : lineOf m p = ([], 3) := by
  unfold lineOf
  rw [if_neg (by omega), if_neg]
  rw [List.all_eq_true]
  intro hx
  have := hx _ (List.getElem_mem hj)
  rw [this] at k; cases k
theorem strip_yes {p : List UInt8} (h : 0 < p.length) (k : p[p.length - 1]'(by omega) = 13) : strip p = p.dropLast := by
  unfold strip
  rw [if_pos]
  rw [List.getLast?_eq_getElem?, List.getElem?_eq_getElem (by omega), k]
theorem strip_no {p : List UInt8} (h : 0 < p.length) (k : p[p.length - 1]'(by omega) ≠ 13) : strip p = p := by
  unfold strip
  rw [if_neg]
  rw [List.getLast?_eq_getElem?, List.getElem?_eq_getElem (by omega)]
  intro e; injection e with e; exact k e

end Go.Proofs.Ytdgbhbifeohfjaa
