/- The plain law of the roll: no program in sight. -/
import Derived.Test.YtgohdkjnmleblaaMem
namespace Go.Proofs.Ytgohdkjnmleblaa

/-- A slot: free, or who is there and what is kept of them. -/
abbrev Sl := Option (Int × ByteArray)
def idOf : Sl → Int
  | some p => p.1
  | none => 0
def xOf : Sl → ByteArray
  | some p => p.2
  | none => ⟨#[]⟩
def hasId (id : Int) (s : Sl) : Bool := s.isSome && (idOf s == id)
def free (s : Sl) : Bool := !s.isSome
def fnd (p : Sl → Bool) (l : List Sl) : Int := if l.findIdx p < l.length then (l.findIdx p : Int) else -1
theorem fnd_hit {p : Sl → Bool} {l : List Sl} {k : Nat} (hk : k < l.length) (h : p l[k] = true) (hn : ∀ j (hj : j < k), p (l[j]'(by omega)) = false) : fnd p l = k := by
  have : l.findIdx p = k := (List.findIdx_eq hk).2 ⟨h, hn⟩
  unfold fnd; rw [this, if_pos hk]
theorem fnd_miss {p : Sl → Bool} {l : List Sl} (hn : ∀ j (hj : j < l.length), p l[j] = false) : fnd p l = -1 := by
  unfold fnd; rw [if_neg]
  intro h
  have := List.findIdx_getElem (w := h)
  rw [hn _ h] at this; cases this
theorem fnd_cases (p : Sl → Bool) (l : List Sl) : (∃ (k : Nat) (hk : k < l.length), fnd p l = k ∧ p l[k] = true ∧ ∀ j (hj : j < k), p (l[j]'(by omega)) = false) ∨ (fnd p l = -1 ∧ ∀ j (hj : j < l.length), p l[j] = false) := by
  by_cases h : l.findIdx p < l.length
  · refine .inl ⟨l.findIdx p, h, ?_, List.findIdx_getElem, fun j hj => ?_⟩
    · unfold fnd; rw [if_pos h]
    · have := List.not_of_lt_findIdx hj; simpa using this
  · refine .inr ⟨by unfold fnd; rw [if_neg h], fun j hj => ?_⟩
    have := List.not_of_lt_findIdx (show j < l.findIdx p by omega); simpa using this
def many (l : List Sl) : Nat := l.countP Option.isSome
theorem many_le (l : List Sl) : many l ≤ l.length := List.countP_le_length
theorem many_append (a b : List Sl) : many (a ++ b) = many a + many b := List.countP_append
theorem many_none (l : List Sl) : many (l ++ [none]) = many l := by rw [many_append]; rfl
theorem many_some (l : List Sl) (x : Int × ByteArray) : many (l ++ [some x]) = many l + 1 := by rw [many_append]; rfl
theorem split_at (l : List Sl) (k : Nat) (h : k < l.length) : l = l.take k ++ [l[k]] ++ l.drop (k + 1) := by simp
theorem set_at (l : List Sl) (k : Nat) (h : k < l.length) (x : Sl) : l.set k x = l.take k ++ [x] ++ l.drop (k + 1) := by
  rw [List.set_eq_take_append_cons_drop, if_pos h]; simp
theorem many_put (l : List Sl) (k : Nat) (h : k < l.length) (x : Int × ByteArray) (hn : l[k] = none) : many (l.set k (some x)) = many l + 1 := by
  have e := congrArg many (split_at l k h)
  rw [set_at l k h]
  simp only [many_append, hn] at e ⊢
  have h1 : many [some x] = 1 := rfl
  have h2 : many [(none : Sl)] = 0 := rfl
  omega
theorem many_drop (l : List Sl) (k : Nat) (h : k < l.length) (hs : l[k].isSome = true) : many (l.set k none) + 1 = many l := by
  have e := congrArg many (split_at l k h)
  obtain ⟨x, hx⟩ := Option.isSome_iff_exists.1 hs
  rw [set_at l k h]
  simp only [many_append, hx] at e ⊢
  have h1 : many [some x] = 1 := rfl
  have h2 : many [(none : Sl)] = 0 := rfl
  omega

/-- Put: the slots, where, and the code. -/
def putL (l : List Sl) (most : Nat) (id : Int) (x : ByteArray) : List Sl × Int × Int :=
  if 0 ≤ fnd (hasId id) l then (l, -1, 8) else if most ≤ many l then (l, -1, 6)
  else if 0 ≤ fnd free l then (l.set (fnd free l).toNat (some (id, x)), fnd free l, 0) else (l ++ [some (id, x)], l.length, 0)
def dropL (l : List Sl) (id : Int) : List Sl × Bool := if 0 ≤ fnd (hasId id) l then (l.set (fnd (hasId id) l).toNat none, true) else (l, false)
/-- Those that are used, rising, and what is kept there; from number k on. -/
def itemsFrom : Nat → List Sl → List (Nat × ByteArray)
  | _, [] => []
  | k, some p :: l => (k, p.2) :: itemsFrom (k + 1) l
  | k, none :: l => itemsFrom (k + 1) l
def items (l : List Sl) : List (Nat × ByteArray) := itemsFrom 0 l
def slotsOf (l : List Sl) : List Nat := (items l).map Prod.fst
theorem items_append : ∀ (l m : List Sl) (k : Nat), itemsFrom k (l ++ m) = itemsFrom k l ++ itemsFrom (k + l.length) m
  | [], m, k => by simp [itemsFrom]
  | some p :: l, m, k => by simp only [List.cons_append, itemsFrom, items_append l m (k + 1), List.length_cons]; rw [show k + 1 + l.length = k + (l.length + 1) by omega]
  | none :: l, m, k => by simp only [List.cons_append, itemsFrom, items_append l m (k + 1), List.length_cons]; rw [show k + 1 + l.length = k + (l.length + 1) by omega]
theorem items_snoc (l : List Sl) (k : Nat) (h : k < l.length) : items (l.take (k + 1)) = items (l.take k) ++ (match l[k] with | some p => [(k, p.2)] | none => []) := by
  unfold items
  rw [List.take_succ_eq_append_getElem h, items_append, List.length_take, Nat.min_eq_left (by omega), Nat.zero_add]
  congr 1
  cases l[k] <;> rfl
theorem items_len (l : List Sl) : (items l).length = many l := by
  have : ∀ (l : List Sl) (k : Nat), (itemsFrom k l).length = many l := by
    intro l
    induction l with
    | nil => intro k; rfl
    | cons s l ih =>
      intro k
      cases s with
      | none => rw [itemsFrom, ih]; rfl
      | some p => rw [itemsFrom, List.length_cons, ih]; simp [many]
  exact this l 0
theorem items_get : ∀ (l : List Sl) (i : Nat) (x : ByteArray), (i, x) ∈ items l → ∃ h : i < l.length, ∃ id, l[i] = some (id, x) := by
  have : ∀ (l : List Sl) (k i : Nat) (x : ByteArray), (i, x) ∈ itemsFrom k l → k ≤ i ∧ ∃ h : i - k < l.length, ∃ id, l[i - k] = some (id, x) := by
    intro l
    induction l with
    | nil => intro k i x h; cases h
    | cons s l ih =>
      intro k i x h
      have tail : (i, x) ∈ itemsFrom (k + 1) l → k ≤ i ∧ ∃ h : i - k < (s :: l).length, ∃ id, (s :: l)[i - k] = some (id, x) := by
        intro h
        obtain ⟨h1, h2, id, h3⟩ := ih (k + 1) i x h
        refine ⟨by omega, by simp; omega, id, ?_⟩
        have e : i - k = (i - (k + 1)) + 1 := by omega
        simp only [e, List.getElem_cons_succ]; exact h3
      cases s with
      | none => exact tail h
      | some p =>
        rw [itemsFrom, List.mem_cons] at h
        rcases h with h | h
        · injection h with h1 h2
          subst h1 h2
          exact ⟨Nat.le_refl _, by simp, p.1, by simp⟩
        · exact tail h
  intro l i x h
  obtain ⟨_, h2, id, h3⟩ := this l 0 i x h
  exact ⟨h2, id, h3⟩

end Go.Proofs.Ytgohdkjnmleblaa
