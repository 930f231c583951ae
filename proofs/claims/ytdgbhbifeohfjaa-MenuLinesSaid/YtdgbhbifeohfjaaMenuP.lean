/- Plain words of the menu: no program in sight. -/
namespace Go.Proofs.Ytdgbhbifeohfjaa

/-- A key, what it does, what one must be allowed to, what is said of it. -/
structure MItem where
  key : Nat
  act : Nat
  level : Nat
  says : List UInt8
  deriving DecidableEq

def mItems : List MItem := [
  ⟨46, 1, 1, [108, 101, 97, 118, 101, 32, 116, 104, 101, 32, 99, 111, 110, 115, 111, 108, 101]⟩,
  ⟨97, 2, 2, [119, 114, 105, 116, 101, 44, 32, 111, 114, 32, 119, 97, 105, 116, 32, 116, 111]⟩,
  ⟨98, 3, 2, [119, 114, 105, 116, 101, 32, 105, 110, 32, 112, 108, 97, 99, 101, 32, 111, 102, 32, 111, 110, 101, 32, 119, 104, 111, 32, 109, 97, 121, 32, 100, 111, 32, 108, 101, 115, 115]⟩,
  ⟨102, 4, 3, [119, 114, 105, 116, 101, 32, 105, 110, 32, 112, 108, 97, 99, 101, 32, 111, 102, 32, 119, 104, 111, 101, 118, 101, 114, 32, 100, 111, 101, 115]⟩,
  ⟨115, 5, 1, [108, 111, 111, 107, 32, 111, 110]⟩,
  ⟨114, 6, 1, [115, 104, 111, 119, 32, 116, 104, 101, 32, 108, 97, 115, 116, 32, 108, 105, 110, 101, 115]⟩,
  ⟨119, 7, 1, [108, 105, 115, 116, 32, 119, 104, 111, 32, 105, 115, 32, 116, 104, 101, 114, 101]⟩,
  ⟨105, 8, 1, [116, 101, 108, 108, 32, 104, 111, 119, 32, 116, 104, 101, 32, 99, 111, 110, 115, 111, 108, 101, 32, 105, 115]⟩,
  ⟨100, 9, 3, [116, 117, 114, 110, 32, 116, 104, 101, 32, 108, 105, 110, 101, 32, 111, 102, 102]⟩,
  ⟨117, 10, 3, [116, 117, 114, 110, 32, 116, 104, 101, 32, 108, 105, 110, 101, 32, 111, 110]⟩,
  ⟨108, 11, 3, [111, 112, 101, 110, 32, 116, 104, 101, 32, 108, 111, 103, 32, 97, 103, 97, 105, 110]⟩,
  ⟨101, 13, 2, [115, 101, 110, 100, 32, 116, 104, 101, 32, 101, 115, 99, 97, 112, 101, 32, 105, 116, 115, 101, 108, 102]⟩,
  ⟨63, 14, 1, [108, 105, 115, 116, 32, 97, 108, 108, 32, 107, 101, 121, 115]⟩]

def mAt (k : Nat) : MItem := mItems.getD k ⟨0, 0, 0, []⟩

def mFind (c : Nat) : Option MItem := mItems.find? (fun x => x.key == c)
def kA (c : Nat) : Int := if 48 ≤ c ∧ c ≤ 57 then 12 else match mFind c with | some x => x.act | none => 0
def kN (c : Nat) : Int := if 48 ≤ c ∧ c ≤ 57 then c - 48 else 0
def kL (c : Nat) : Int := if 48 ≤ c ∧ c ≤ 57 then 2 else match mFind c with | some x => x.level | none => 0

theorem mItems_length : mItems.length = 13 := rfl
theorem mAt_eq {k : Nat} (h : k < 13) : mAt k = mItems[k]'(by rw [mItems_length]; exact h) := by
  unfold mAt; rw [List.getD_eq_getElem?_getD, List.getElem?_eq_getElem]; rfl
theorem mFind_at {c k : Nat} (h : k < 13) (hn : ∀ j, j < k → (mAt j).key ≠ c) (he : (mAt k).key = c) : mFind c = some (mAt k) := by
  have hk : k < mItems.length := by rw [mItems_length]; exact h
  unfold mFind
  rw [List.find?_eq_some_iff_getElem]
  refine ⟨by simpa using he, k, hk, (mAt_eq h).symm, fun j hj => ?_⟩
  have := hn j hj
  rw [mAt_eq (by omega)] at this
  simpa using this
theorem mFind_none {c : Nat} (hn : ∀ j, j < 13 → (mAt j).key ≠ c) : mFind c = none := by
  unfold mFind
  rw [List.find?_eq_none]
  intro x hx
  obtain ⟨j, hj, rfl⟩ := List.getElem_of_mem hx
  have := hn j (by rw [mItems_length] at hj; exact hj)
  rw [mAt_eq (by rw [mItems_length] at hj; exact hj)] at this
  simpa using this
theorem mAt_key_bd (k : Nat) : (mAt k).key ≤ 255 := by
  by_cases h : k < 13
  · have : ∀ i : Fin 13, (mAt i.val).key ≤ 255 := by decide
    exact this ⟨k, h⟩
  · unfold mAt; rw [List.getD_eq_getElem?_getD, List.getElem?_eq_none (by rw [mItems_length]; omega)]; decide

/-! ### The reference's tables -/
def rKeys : List (List UInt8) := [[], [46], [97], [98], [102], [115], [114], [119], [105], [100], [117], [108], [48, 49, 50, 51, 52, 53, 54, 55, 56, 57], [101], [63]]
def rSays : List (List UInt8) := [[], [108, 101, 97, 118, 101, 32, 116, 104, 101, 32, 99, 111, 110, 115, 111, 108, 101], [119, 114, 105, 116, 101, 44, 32, 111, 114, 32, 119, 97, 105, 116, 32, 116, 111], [119, 114, 105, 116, 101, 32, 105, 110, 32, 112, 108, 97, 99, 101, 32, 111, 102, 32, 111, 110, 101, 32, 119, 104, 111, 32, 109, 97, 121, 32, 100, 111, 32, 108, 101, 115, 115], [119, 114, 105, 116, 101, 32, 105, 110, 32, 112, 108, 97, 99, 101, 32, 111, 102, 32, 119, 104, 111, 101, 118, 101, 114, 32, 100, 111, 101, 115], [108, 111, 111, 107, 32, 111, 110], [115, 104, 111, 119, 32, 116, 104, 101, 32, 108, 97, 115, 116, 32, 108, 105, 110, 101, 115], [108, 105, 115, 116, 32, 119, 104, 111, 32, 105, 115, 32, 116, 104, 101, 114, 101], [116, 101, 108, 108, 32, 104, 111, 119, 32, 116, 104, 101, 32, 99, 111, 110, 115, 111, 108, 101, 32, 105, 115], [116, 117, 114, 110, 32, 116, 104, 101, 32, 108, 105, 110, 101, 32, 111, 102, 102], [116, 117, 114, 110, 32, 116, 104, 101, 32, 108, 105, 110, 101, 32, 111, 110], [111, 112, 101, 110, 32, 116, 104, 101, 32, 108, 111, 103, 32, 97, 103, 97, 105, 110], [], [115, 101, 110, 100, 32, 116, 104, 101, 32, 101, 115, 99, 97, 112, 101, 32, 105, 116, 115, 101, 108, 102], [108, 105, 115, 116, 32, 97, 108, 108, 32, 107, 101, 121, 115]]
def rLev : List Nat := [0, 1, 2, 2, 3, 1, 1, 1, 1, 3, 3, 3, 2, 2, 1]
def rKey (i : Nat) : List UInt8 := rKeys.getD i []
def rSay (i : Nat) : List UInt8 := rSays.getD i []
def rL (i : Nat) : Nat := rLev.getD i 0

set_option maxRecDepth 100000 in
theorem rFound : ∀ i : Fin 15, ∀ n : Fin 10, n.val < (rKey i.val).length → kA ((rKey i.val).getD n.val 0).toNat = i.val ∧ kN ((rKey i.val).getD n.val 0).toNat = n.val ∧ kL ((rKey i.val).getD n.val 0).toNat = rL i.val := by decide +kernel
theorem rKey_length : ∀ i : Fin 15, (rKey i.val).length ≤ 10 := by decide +kernel
theorem rFound' {c i n : Nat} (hi : i < 15) (hn : n < (rKey i).length) (he : ((rKey i).getD n 0).toNat = c) : kA c = i ∧ kN c = n ∧ kL c = rL i := by
  subst he
  exact rFound ⟨i, hi⟩ ⟨n, Nat.lt_of_lt_of_le hn (rKey_length ⟨i, hi⟩)⟩ hn
set_option maxRecDepth 100000 in
theorem rNone : ∀ c : Fin 256, (∀ i : Fin 15, 1 ≤ i.val → ∀ n : Fin 10, n.val < (rKey i.val).length → ((rKey i.val).getD n.val 0).toNat ≠ c.val) → kA c.val = 0 ∧ kN c.val = 0 ∧ kL c.val = 0 := by decide +kernel
theorem rNone' {c : Nat} (hc : c ≤ 255) (h : ∀ i, 1 ≤ i → i < 15 → ∀ n, n < (rKey i).length → ((rKey i).getD n 0).toNat ≠ c) : kA c = 0 ∧ kN c = 0 ∧ kL c = 0 :=
  rNone ⟨c, by omega⟩ fun i h1 n hn => h i.val h1 i.isLt n.val hn

/-! ### The keys that do something -/
def ofB (act : Int) (c : Nat) : Bool := (kA c == act) && (act != 0)
def ofTo (act : Int) (k : Nat) : List UInt8 := ((List.range k).filter (ofB act)).map UInt8.ofNat
def ofL (act : Int) : List UInt8 := ofTo act 256
theorem ofTo_succ (act : Int) (k : Nat) : ofTo act (k + 1) = ofTo act k ++ (if ofB act k then [UInt8.ofNat k] else []) := by
  unfold ofTo
  rw [List.range_succ, List.filter_append, List.map_append]
  congr 1
  by_cases h : ofB act k = true
  · simp [h]
  · simp [h]
theorem ofTo_length (act : Int) (k : Nat) : (ofTo act k).length ≤ k := by
  unfold ofTo
  rw [List.length_map]
  exact Nat.le_trans (List.length_filter_le _ _) (by simp)
set_option maxRecDepth 100000 in
theorem ofL_in : ∀ i : Fin 15, 1 ≤ i.val → ofL i.val = rKey i.val := by decide +kernel
set_option maxRecDepth 100000 in
theorem kA_in : ∀ c : Fin 256, 0 ≤ kA c.val ∧ kA c.val ≤ 14 := by decide +kernel
theorem ofL_out {act : Int} (h : ¬ (0 < act ∧ act < 15)) : ofL act = [] := by
  unfold ofL ofTo
  rw [List.map_eq_nil_iff, List.filter_eq_nil_iff]
  intro c hc hb
  have hc' : c < 256 := by simpa using hc
  have := kA_in ⟨c, hc'⟩
  simp only [ofB, Bool.and_eq_true, beq_iff_eq, bne_iff_ne] at hb
  simp only [] at this
  omega

/-! ### The lines -/
def lc (level : Int) : Nat := if level < 1 then 0 else if level < 2 then 1 else if level < 3 then 2 else 3
theorem lc_lt (level : Int) : lc level < 4 := by unfold lc; split <;> (try split) <;> (try split) <;> omega
theorem lc_ge {level : Int} {k : Nat} (h1 : 1 ≤ k) (h3 : k ≤ 3) : (k : Int) ≤ level ↔ k ≤ lc level := by unfold lc; split <;> (try split) <;> (try split) <;> omega
theorem lc_mono (level : Int) : lc level ≤ lc (level + 1) := by unfold lc; split <;> (try split) <;> (try split) <;> (try split) <;> (try split) <;> (try split) <;> omega
def mLine (x : MItem) : List UInt8 := [UInt8.ofNat x.key] ++ [32] ++ x.says
def brkLine : List UInt8 := [48, 32, 116, 111, 32, 57, 32, 115, 101, 110, 100, 32, 97, 32, 98, 114, 101, 97, 107, 32, 115, 101, 113, 117, 101, 110, 99, 101]
def mTo (n k : Nat) : List (List UInt8) := ((List.range k).filter (fun j => decide ((mAt j).level ≤ n))).map (fun j => mLine (mAt j))
def mAll (n : Nat) : List (List UInt8) := mTo n 13 ++ if 2 ≤ n then [brkLine] else []
def rOk (n i : Nat) : Bool := (i != 12) && decide (rL i ≤ n)
def rTo (n k : Nat) : List (List UInt8) := ((List.range k).filter (fun j => decide (1 ≤ j) && rOk n j)).map (fun j => rKey j ++ [32] ++ rSay j)
def rAll (n : Nat) : List (List UInt8) := rTo n 15 ++ if 2 ≤ n then [brkLine] else []
theorem mTo_succ (n k : Nat) : mTo n (k + 1) = mTo n k ++ if (mAt k).level ≤ n then [mLine (mAt k)] else [] := by
  unfold mTo
  rw [List.range_succ, List.filter_append, List.map_append]
  congr 1
  by_cases h : (mAt k).level ≤ n <;> simp [h]
theorem rTo_succ (n k : Nat) (hk : 1 ≤ k) : rTo n (k + 1) = rTo n k ++ if rOk n k = true then [rKey k ++ [32] ++ rSay k] else [] := by
  unfold rTo
  rw [List.range_succ, List.filter_append, List.map_append]
  congr 1
  by_cases h : rOk n k = true <;> simp [h, hk]
theorem mTo_length (n k : Nat) : (mTo n k).length ≤ k := by
  unfold mTo; rw [List.length_map]; exact Nat.le_trans (List.length_filter_le _ _) (by simp)
theorem rTo_length (n k : Nat) : (rTo n k).length ≤ k := by
  unfold rTo; rw [List.length_map]; exact Nat.le_trans (List.length_filter_le _ _) (by simp)
theorem mAt_facts : ∀ i : Fin 13, 1 ≤ (mAt i.val).level ∧ (mAt i.val).level ≤ 3 ∧ (mAt i.val).says.length ≤ 100 := by decide
theorem rAt_facts : ∀ i : Fin 15, 1 ≤ i.val → 1 ≤ rL i.val ∧ rL i.val ≤ 3 ∧ (rKey i.val).length ≤ 100 ∧ (rSay i.val).length ≤ 100 := by decide
set_option maxRecDepth 100000 in
theorem all_same : ∀ n : Fin 4, mAll n.val = rAll n.val := by decide +kernel
set_option maxRecDepth 100000 in
theorem all_lines : ∀ n : Fin 4, ∀ i : Fin 14, i.val < (mAll n.val).length → 1 ≤ ((mAll n.val).getD i.val []).length ∧ 1 ≤ kL (((mAll n.val).getD i.val []).getD 0 0).toNat ∧ kL (((mAll n.val).getD i.val []).getD 0 0).toNat ≤ n.val := by decide +kernel
theorem all_length : ∀ n : Fin 4, (mAll n.val).length ≤ 14 := by decide +kernel
theorem all_mono : ∀ n m : Fin 4, n.val ≤ m.val → (mAll n.val).length ≤ (mAll m.val).length := by decide +kernel
theorem all_counts : (mAll 1).length = 6 ∧ (mAll 3).length = 14 ∧ (mAll 0).length = 0 := by decide +kernel

end Go.Proofs.Ytdgbhbifeohfjaa
