/- Rows of slots; the walks of find and of its callers' inner functions, Slot, Len, New. -/
import Derived.Test.YtgohdkjnmleblaaRolP
namespace Go.Proofs.Ytgohdkjnmleblaa
open Go.RowKit
attribute [local go_sem ↓] Go.wp_at_zero Go.wp_at_succ

def slC (s : Sl) : List Value := [.int .i64 (idOf s), .bool s.isSome, .string (xOf s)]
def slV (l : List Sl) : List Value := l.flatMap slC
theorem slV_append (a b : List Sl) : slV (a ++ b) = slV a ++ slV b := by simp [slV]
theorem slV_one (s : Sl) : slV [s] = slC s := by simp [slV]
theorem slV_cons (s : Sl) (l : List Sl) : slV (s :: l) = slC s ++ slV l := by simp [slV]
theorem slC_len (s : Sl) : (slC s).length = 3 := rfl
theorem slC_one (s : Sl) : ∀ u ∈ slC s, u.oneCell' = true := by
  intro u hu; simp [slC] at hu; rcases hu with rfl | rfl | rfl <;> rfl
theorem slV_length (l : List Sl) : (slV l).length = l.length * 3 := by
  induction l with
  | nil => rfl
  | cons s l ih => rw [slV_cons, List.length_append, ih, slC_len]; simp; omega
theorem slV_at : ∀ (l : List Sl) (k : Nat) (h : k < l.length), (slV l)[k * 3]? = some (.int .i64 (idOf l[k])) ∧ (slV l)[k * 3 + 1]? = some (.bool l[k].isSome) ∧ (slV l)[k * 3 + 2]? = some (.string (xOf l[k]))
  | s :: l, 0, _ => by rw [slV_cons]; exact ⟨rfl, rfl, rfl⟩
  | s :: l, k + 1, h => by
    have ih := slV_at l k (by simpa using h)
    rw [slV_cons]
    have e : ∀ i, (slC s ++ slV l)[(k + 1) * 3 + i]? = (slV l)[k * 3 + i]? := fun i => by
      rw [List.getElem?_append_right (by rw [slC_len]; omega), slC_len]
      congr 1; omega
    have e0 := e 0
    simp only [Nat.add_zero] at e0
    rw [e0, e 1, e 2]
    exact ih

/-- The roll: its slots, how many may be there, how many are. -/
structure RollAt (w : World) (g b : Nat) (lv : Value) (l : List Sl) (most : Nat) : Prop where
  at_ : Whole w g 59 #[lv, .int .i64 (most : Int), .int .i64 (many l : Int)]
  row : w.ownsRow b 61 3 lv l.length (slV l)
theorem RollAt.below {w w' : World} {g b : Nat} {lv : Value} {l : List Sl} {most : Nat} (h : RollAt w g b lv l most) (hb : Below w.heap.size w w') : RollAt w' g b lv l most := ⟨h.at_.below hb h.at_.lt, own_below h.row hb⟩
theorem RollAt.alloc {w : World} {g b : Nat} {lv : Value} {l : List Sl} {most : Nat} (h : RollAt w g b lv l most) (o : Obj) : RollAt (w.alloc o) g b lv l most := ⟨h.at_.alloc o, h.row.alloc o⟩

theorem slot1_any (s : Sl) (id : Int) (B : Nat) (w : World) (hc : w.cell? ⟨B, 0, none⟩ = some (.int .i64 id)) :
    Calls Try.prog 23 #[.agg #[.int .i64 (idOf s), .bool s.isSome, .string (xOf s)], .pointer (some ⟨B, 0, none⟩)] w fun e w' => e = .returned (.bool (hasId id s)) ∧ Below w.heap.size w w' := by
  have hlt : B < w.heap.size := World.block_lt_of_cell? w _ hc
  have hb := (Below.refl w.heap.size w).alloc (Nat.le_refl _) (.cells #[.int .i64 (idOf s), .bool s.isSome, .string (xOf s)] 61)
  have hc2 : (w.alloc (.cells #[.int .i64 (idOf s), .bool s.isSome, .string (xOf s)] 61)).cell? ⟨B, 0, none⟩ = some (.int .i64 id) := (hb.cell (p := ⟨B, 0, none⟩) hlt).trans hc
  unfold hasId
  generalize idOf s = i at *
  generalize xOf s = x at *
  cases hs : s.isSome with
  | true =>
    rw [hs] at hb hc2
    go_enter Try.func23, Try.ntmps23
    go_wp2
    go_ret
    exact ⟨rfl, hb⟩
  | false =>
    rw [hs] at hb hc2
    go_enter Try.func23, Try.ntmps23
    go_wp2
    go_ret
    exact ⟨rfl, hb⟩
theorem put1_any (s : Sl) (w : World) :
    Calls Try.prog 24 #[.agg #[.int .i64 (idOf s), .bool s.isSome, .string (xOf s)]] w fun e w' => e = .returned (.bool (free s)) ∧ Below w.heap.size w w' := by
  have hb := (Below.refl w.heap.size w).alloc (Nat.le_refl _) (.cells #[.int .i64 (idOf s), .bool s.isSome, .string (xOf s)] 61)
  go_enter Try.func24, Try.ntmps24
  go_wp2
  go_ret
  exact ⟨by cases s <;> rfl, hb⟩

set_option maxRecDepth 100000 in
set_option maxHeartbeats 2000000 in
theorem find_id (g b most : Nat) (id : Int) (B0 : Nat) (lv : Value) (l : List Sl) (w : World) (hr : RollAt w g b lv l most) (hl : l.length ≤ 100000) (hB : B0 < w.heap.size) (hbc : w.cell? ⟨B0, 0, none⟩ = some (.int .i64 id)) :
    Calls Try.prog 22 #[.pointer (some ⟨g, 0, none⟩), .func (.func 23) #[] #[.pointer (some ⟨B0, 0, none⟩)]] w fun e w' => e = .returned (.int .i64 (fnd (hasId id) l)) ∧ Below w.heap.size w w' := by
  obtain ⟨hw, ho⟩ := hr
  have hc0 := hw.cell 0
  obtain ⟨A, ca, rfl, hm, _, _, ha⟩ := own_form ho
  clear ho
  unfold maxLen at hm
  have HA := Lib.hid ha
  clear ha
  have hgl := hw.lt
  clear hw
  go_enter Try.func22, Try.ntmps22
  go_wp2
  go_loopw [5, 14] (fun _ i wr => ∃ k : Nat, k ≤ l.length ∧ i = .int .i64 k ∧ Below w.heap.size w wr ∧ Hid (∀ j (hj : j < k) (hl : j < l.length), hasId id l[j] = false)) (fun _ i _ => l.length - (intOf i).toNat)
  case atStart => exact ⟨0, by omega, rfl, Below.refl _ _, fun j hj => absurd hj (by omega)⟩
  case round =>
    obtain ⟨k, hk, rfl, hb, HN⟩ := hrel
    by_cases hlt : k < l.length
    · obtain ⟨g1, rfl, _, hg1, c1⟩ := HA.out k hlt (by omega)
      obtain ⟨l1, l2, l3⟩ := slV_at l k hlt
      have d1 := ((hb.cell (p := ⟨g1, k * 3, none⟩) hg1).trans (c1 (k * 3) (by omega))).trans l1
      have d2 := ((hb.cell (p := ⟨g1, k * 3 + 1, none⟩) hg1).trans (c1 (k * 3 + 1) (by omega))).trans l2
      have d3 := ((hb.cell (p := ⟨g1, k * 3 + 2, none⟩) hg1).trans (c1 (k * 3 + 2) (by omega))).trans l3
      have g0 : (0 : Int) ≤ (k : Int) := by omega
      have g3 : (k : Int) < (l.length : Int) := by omega
      clear c1 l1 l2 l3
      have HH := Lib.hid (fun (h : hasId id l[k] = true) (hn : ∀ j (hj : j < k), hasId id (l[j]'(by omega)) = false) => fnd_hit hlt h hn)
      have HM : Hid (hasId id l[k] = false → ∀ j (hj : j < k + 1) (hl : j < l.length), hasId id l[j] = false) := fun h j hj hl => by
        by_cases e : j = k
        · subst e; exact h
        · exact HN.out j (by omega) hl
      generalize l[k] = s at *
      have hb2 := hb.alloc hb.size (.cells #[.int .i64 (idOf s), .bool s.isSome, .string (xOf s)] 61)
      have hcap : (wr.alloc (.cells #[.int .i64 (idOf s), .bool s.isSome, .string (xOf s)] 61)).cell? ⟨B0, 0, none⟩ = some (.int .i64 id) := (hb2.cell (p := ⟨B0, 0, none⟩) hB).trans hbc
      go_wp2_with fail
      refine (slot1_any s id B0 _ hcap).mono ?_; rintro e w3 ⟨rfl, hb3'⟩
      have hb3 := below_then hb2 hb3'
      clear hb2 hb3' hcap d1 d2 d3
      generalize hasId id s = B at *
      cases B with
      | true =>
        go_wp2
        go_ret
        exact ⟨by rw [HH.out (by simp) (fun j hj => HN.out j hj (by omega))]; rfl, hb3⟩
      | false =>
        go_wp2
        exact ⟨⟨k + 1, by omega, by go_num, hb3, HM.out (by simp)⟩, by simp [intOf]; omega⟩
    · go_wp2
      go_ret
      exact ⟨by rw [fnd_miss (fun j hj => HN.out j (by omega) hj)]; rfl, hb⟩

set_option maxRecDepth 100000 in
set_option maxHeartbeats 2000000 in
theorem find_free (g b most : Nat)  (lv : Value) (l : List Sl) (w : World) (hr : RollAt w g b lv l most) (hl : l.length ≤ 100000) :
    Calls Try.prog 22 #[.pointer (some ⟨g, 0, none⟩), .func (.func 24) #[] #[]] w fun e w' => e = .returned (.int .i64 (fnd (free) l)) ∧ Below w.heap.size w w' := by
  obtain ⟨hw, ho⟩ := hr
  have hc0 := hw.cell 0
  obtain ⟨A, ca, rfl, hm, _, _, ha⟩ := own_form ho
  clear ho
  unfold maxLen at hm
  have HA := Lib.hid ha
  clear ha
  have hgl := hw.lt
  clear hw
  go_enter Try.func22, Try.ntmps22
  go_wp2
  go_loopw [5, 14] (fun _ i wr => ∃ k : Nat, k ≤ l.length ∧ i = .int .i64 k ∧ Below w.heap.size w wr ∧ Hid (∀ j (hj : j < k) (hl : j < l.length), free l[j] = false)) (fun _ i _ => l.length - (intOf i).toNat)
  case atStart => exact ⟨0, by omega, rfl, Below.refl _ _, fun j hj => absurd hj (by omega)⟩
  case round =>
    obtain ⟨k, hk, rfl, hb, HN⟩ := hrel
    by_cases hlt : k < l.length
    · obtain ⟨g1, rfl, _, hg1, c1⟩ := HA.out k hlt (by omega)
      obtain ⟨l1, l2, l3⟩ := slV_at l k hlt
      have d1 := ((hb.cell (p := ⟨g1, k * 3, none⟩) hg1).trans (c1 (k * 3) (by omega))).trans l1
      have d2 := ((hb.cell (p := ⟨g1, k * 3 + 1, none⟩) hg1).trans (c1 (k * 3 + 1) (by omega))).trans l2
      have d3 := ((hb.cell (p := ⟨g1, k * 3 + 2, none⟩) hg1).trans (c1 (k * 3 + 2) (by omega))).trans l3
      have g0 : (0 : Int) ≤ (k : Int) := by omega
      have g3 : (k : Int) < (l.length : Int) := by omega
      clear c1 l1 l2 l3
      have HH := Lib.hid (fun (h : free l[k] = true) (hn : ∀ j (hj : j < k), free (l[j]'(by omega)) = false) => fnd_hit hlt h hn)
      have HM : Hid (free l[k] = false → ∀ j (hj : j < k + 1) (hl : j < l.length), free l[j] = false) := fun h j hj hl => by
        by_cases e : j = k
        · subst e; exact h
        · exact HN.out j (by omega) hl
      generalize l[k] = s at *
      have hb2 := hb.alloc hb.size (.cells #[.int .i64 (idOf s), .bool s.isSome, .string (xOf s)] 61)
      go_wp2_with fail
      refine (put1_any s _).mono ?_; rintro e w3 ⟨rfl, hb3'⟩
      have hb3 := below_then hb2 hb3'
      clear hb2 hb3' d1 d2 d3
      generalize free s = B at *
      cases B with
      | true =>
        go_wp2
        go_ret
        exact ⟨by rw [HH.out (by simp) (fun j hj => HN.out j hj (by omega))]; rfl, hb3⟩
      | false =>
        go_wp2
        exact ⟨⟨k + 1, by omega, by go_num, hb3, HM.out (by simp)⟩, by simp [intOf]; omega⟩
    · go_wp2
      go_ret
      exact ⟨by rw [fnd_miss (fun j hj => HN.out j (by omega) hj)]; rfl, hb⟩

theorem slot_any (g b most : Nat) (id : Int) (lv : Value) (l : List Sl) (w : World) (hr : RollAt w g b lv l most) (hl : l.length ≤ 100000) :
    Calls Try.prog 12 #[.pointer (some ⟨g, 0, none⟩), .int .i64 id] w fun e w' => e = .returned (.int .i64 (fnd (hasId id) l)) ∧ Below w.heap.size w w' := by
  have hmf : ∀ fn first cap w, (Instr.makeFunc fn first cap).run Try.prog w = .ok (.func fn first cap) w := fun _ _ _ _ => rfl
  have hb := (Below.refl w.heap.size w).alloc (Nat.le_refl _) (.cells #[.int .i64 id] 3)
  go_enter Try.func12, Try.ntmps12
  go_wp2_with fail
  refine (find_id g b most id w.heap.size lv l _ (hr.alloc _) hl (by simp) (by simp)).mono ?_
  rintro e w1 ⟨rfl, hb1⟩
  go_wp2
  go_ret
  exact ⟨rfl, below_then hb hb1⟩

theorem len_any (g b most : Nat) (lv : Value) (l : List Sl) (w : World) (hr : RollAt w g b lv l most) :
    Calls Try.prog 15 #[.pointer (some ⟨g, 0, none⟩)] w fun e w' => e = .returned (.int .i64 (many l : Int)) ∧ w = w' := by
  have hc := hr.at_.cell 2
  clear hr
  go_enter Try.func15, Try.ntmps15
  go_wp2
  go_ret
  exact ⟨rfl, rfl⟩

theorem new_yes (most : Nat) (w : World) (h1 : 1 ≤ most) (h2 : most ≤ 4096) :
    Calls Try.prog 7 #[.int .i64 (most : Int)] w fun e w' => e = .returned (.tuple #[.pointer (some ⟨w.heap.size, 0, none⟩), .int .i64 0]) ∧ w' = w.alloc (.cells #[.slice none 0 0, .int .i64 (most : Int), .int .i64 0] 59) := by
  have e1 : (1 : Int) ≤ (most : Int) := by omega
  have e2 : (most : Int) ≤ 4096 := by omega
  go_enter Try.func7, Try.ntmps7
  go_wp2
  go_ret2
  exact ⟨rfl, rfl⟩
theorem new_no (most : Int) (w : World) (h : most < 1 ∨ 4096 < most) :
    Calls Try.prog 7 #[.int .i64 most] w fun e w' => e = .returned (.tuple #[.pointer none, .int .i64 2]) ∧ w = w' := by
  rcases h with h | h
  all_goals
    go_enter Try.func7, Try.ntmps7
    go_wp2
    all_goals go_ret2
    all_goals exact ⟨rfl, rfl⟩
theorem newInt_no (w : World) : Calls Try.prog 21 #[.int .i64 0] w fun e w' => e = .returned (.tuple #[.pointer none, .int .i64 2]) ∧ w = w' := by
  go_enter Try.func21, Try.ntmps21
  go_wp2
  go_ret2
  exact ⟨rfl, rfl⟩
theorem new_roll (most : Nat) (w : World) : RollAt (w.alloc (.cells #[.slice none 0 0, .int .i64 (most : Int), .int .i64 0] 59)) w.heap.size (w.heap.size + 1) (.slice none 0 0) [] most :=
  ⟨Whole.new _ _ _, World.ownsRow_nil _ _ _ _⟩

end Go.Proofs.Ytgohdkjnmleblaa
