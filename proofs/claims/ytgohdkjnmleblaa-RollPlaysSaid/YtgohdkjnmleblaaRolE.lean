/- The walks of Same on rows of ints, and of works. -/
import Derived.Test.YtgohdkjnmleblaaRolD
namespace Go.Proofs.Ytgohdkjnmleblaa
open Go.RowKit
attribute [local go_sem ↓] Go.wp_at_zero Go.wp_at_succ

/-- A slice that reads as these ints. -/
def RdI (w : World) (A : Option Addr) (ks : List Nat) : Prop :=
  ∀ j, j < ks.length → ∃ g, A = some ⟨g, 0, none⟩ ∧ g < w.heap.size ∧ ∀ i, i < ks.length → w.cell? ⟨g, i, none⟩ = (idxV ks)[i]?
theorem rdi_of {w : World} {base n : Nat} {v : Value} {ks : List Nat} (hn : ks.length = n) (h : w.ownsRow base 3 1 v n (idxV ks)) : ∃ A ca, v = .slice A n ca ∧ n ≤ maxLen ∧ n ≤ ca ∧ RdI w A ks := by
  subst hn
  obtain ⟨A, ca, rfl, hm, hc, _, ha⟩ := own_form h
  refine ⟨A, ca, rfl, hm, hc, fun j hj => ?_⟩
  obtain ⟨g, rfl, _, hg, hcs⟩ := ha j hj (by omega)
  exact ⟨g, rfl, hg, fun i hi => hcs i (by omega)⟩
theorem idxV_at (ks : List Nat) (k : Nat) (h : k < ks.length) : (idxV ks)[k]? = some (.int .i64 (ks[k] : Int)) := by simp [idxV, h]

set_option maxHeartbeats 1000000 in
theorem sameI_rd (A B : Option Addr) (n ca cb : Nat) (ks : List Nat) (w : World) (hn : ks.length = n) (hm : n ≤ maxLen) (h1 : RdI w A ks) (h2 : RdI w B ks) :
    Calls Try.prog 17 #[.slice A n ca, .slice B n cb] w fun e w' => e = .returned (.bool true) ∧ Below w.heap.size w w' := by
  subst hn
  have HA := Lib.hid h1
  have HB := Lib.hid h2
  clear h1 h2
  unfold maxLen at hm
  have hne : ((ks.length : Int) != (ks.length : Int)) = false := by simp
  go_enter Try.func17, Try.ntmps17
  go_wp2
  go_loopw [5] (fun i wr => ∃ k : Nat, k ≤ ks.length ∧ i = .int .i64 k ∧ ∃ n, wr = w.drewN n) (fun i _ => ks.length - (intOf i).toNat)
  case atStart => exact ⟨0, by omega, rfl, 0, rfl⟩
  case round =>
    obtain ⟨k, hk, rfl, n, rfl⟩ := hrel
    by_cases hlt : k < ks.length
    · obtain ⟨g1, rfl, _, c1⟩ := HA.out k hlt
      obtain ⟨g2, rfl, _, c2⟩ := HB.out k hlt
      have d1 := (c1 k hlt).trans (idxV_at ks k hlt)
      have d2 := (c2 k hlt).trans (idxV_at ks k hlt)
      clear c1 c2 HA HB
      generalize ks[k] = p at *
      have g0 : (0 : Int) ≤ (k : Int) := by omega
      have g3 : (k : Int) < (ks.length : Int) := by omega
      go_wp2
      go_quiet (fail)
      go_wp2
      exact ⟨⟨k + 1, by omega, by go_num, _, rfl⟩, by simp [intOf]; omega⟩
    · go_wp2
      go_ret
      exact ⟨rfl, drawnN (Below.refl _ _) n⟩

theorem sameI (b1 b2 n : Nat) (v1 v2 : Value) (ks : List Nat) (w : World) (hn : ks.length = n) (h1 : w.ownsRow b1 3 1 v1 n (idxV ks)) (h2 : w.ownsRow b2 3 1 v2 n (idxV ks)) :
    Calls Try.prog 17 #[v1, v2] w fun e w' => e = .returned (.bool true) ∧ Below w.heap.size w w' := by
  obtain ⟨A, ca, rfl, hm, _, ha⟩ := rdi_of hn h1
  obtain ⟨B, cb, rfl, _, _, hb⟩ := rdi_of hn h2
  exact sameI_rd A B n ca cb ks w hn hm ha hb

abbrev sAnn : ByteArray := ⟨#[97, 110, 110]⟩
abbrev sBob : ByteArray := ⟨#[98, 111, 98]⟩
abbrev sX : ByteArray := ⟨#[120]⟩
abbrev sEve : ByteArray := ⟨#[101, 118, 101]⟩
def R1 : List Sl := [some (70, sAnn)]
def R2 : List Sl := [some (70, sAnn), some (71, sBob)]
def R3 : List Sl := [none, some (71, sBob)]
def R4 : List Sl := [some (72, sEve), some (71, sBob)]
theorem rl1 : putL [] 2 70 sAnn = (R1, 0, 0) := by rfl
theorem rl2 : putL R1 2 71 sBob = (R2, 1, 0) := by rfl
theorem rl3 : putL R2 2 70 sX = (R2, -1, 8) := by rfl
theorem rl4 : putL R2 2 72 sX = (R2, -1, 6) := by rfl
theorem rl5 : dropL R2 70 = (R3, true) := by rfl
theorem rl6 : putL R3 2 72 sEve = (R4, 0, 0) := by rfl
theorem rl7 : getL R4 0 = (72, sEve, true) := by rfl
theorem rl8 : getL R4 2 = (0, ⟨#[]⟩, false) := by rfl
theorem rl9 : many R4 = 2 ∧ fnd (hasId 71) R4 = 1 ∧ fnd (hasId 70) R4 = -1 ∧ slotsOf R4 = [0, 1] := by refine ⟨rfl, rfl, rfl, rfl⟩

theorem rs_below {w w1 w2 : World} {g b : Nat} (hb : Below w.heap.size w w1) (hk : Kept w1 w2 (RS w1 g b)) (hg : w.heap.size ≤ g) (hbb : w.heap.size ≤ b) : Below w.heap.size w w2 :=
  hb.trans (hk.below (fun i h => by rcases h with h | ⟨h, _⟩ <;> omega) hb.size)

/-- A roll that the law made, and nothing that lay ahead has turned. -/
structure RollOk (w0 w : World) (g : Nat) (l : List Sl) (most : Nat) : Prop where
  at_ : ∃ lv, RollAt w g (g + 1) lv l most
  size : g + 1 ≤ w.heap.size
  len : l.length ≤ 50000
  ge : w0.heap.size ≤ g
  below : Below w0.heap.size w0 w
theorem RollOk.next {w0 w w' : World} {g : Nat} {l : List Sl} {most : Nat} (h : RollOk w0 w g l most) (hb : Below w.heap.size w w') : RollOk w0 w' g l most := by
  obtain ⟨lv, ha⟩ := h.at_
  exact ⟨⟨lv, ha.below hb⟩, Nat.le_trans h.size hb.size, h.len, h.ge, below_then h.below hb⟩
theorem RollOk.turn {w0 w w' : World} {g : Nat} {l l' : List Sl} {most : Nat} (h : RollOk w0 w g l most) (ha : ∃ lv, RollAt w' g (g + 1) lv l' most) (hl : l'.length ≤ 50000) (hk : Kept w w' (RS w g (g + 1))) : RollOk w0 w' g l' most :=
  ⟨ha, Nat.le_trans h.size hk.size, hl, h.ge, rs_below h.below hk h.ge (Nat.le_succ_of_le h.ge)⟩
theorem roll_new (most : Nat) (w : World) : RollOk w (w.alloc (.cells #[.slice none 0 0, .int .i64 (most : Int), .int .i64 0] 59)) w.heap.size [] most :=
  ⟨⟨_, new_roll most w⟩, by simp, by simp, Nat.le_refl _, (Below.refl w.heap.size w).alloc (Nat.le_refl _) _⟩
theorem put_ok {w0 w : World} {g most : Nat} {l l' : List Sl} {id k c : Int} {x : ByteArray} (h : RollOk w0 w g l most) (hm : 1 ≤ most) (hl : l'.length ≤ 50000) (hp : putL l most id x = (l', k, c)) :
    Calls Try.prog 14 #[.pointer (some ⟨g, 0, none⟩), .int .i64 id, .string x] w fun e w' => e = .returned (.tuple #[.int .i64 k, .int .i64 c]) ∧ RollOk w0 w' g l' most ∧ Kept w w' (RS w g (g + 1)) := by
  obtain ⟨lv, ha⟩ := h.at_
  refine (put_any g (g + 1) most id x lv l w ha hm h.len (Nat.lt_succ_self g) h.size).mono ?_
  rintro e w' ⟨rfl, lv', hr, hk⟩
  rw [hp] at hr ⊢
  exact ⟨rfl, h.turn ⟨lv', hr⟩ hl hk, hk⟩
theorem drop_ok {w0 w : World} {g most : Nat} {l l' : List Sl} {id : Int} {d : Bool} (h : RollOk w0 w g l most) (hl : l'.length ≤ 50000) (hp : dropL l id = (l', d)) :
    Calls Try.prog 9 #[.pointer (some ⟨g, 0, none⟩), .int .i64 id] w fun e w' => e = .returned (.bool d) ∧ RollOk w0 w' g l' most ∧ Kept w w' (RS w g (g + 1)) := by
  obtain ⟨lv, ha⟩ := h.at_
  refine (drop_any g (g + 1) most id lv l w ha h.len (Nat.lt_succ_self g)).mono ?_
  rintro e w' ⟨rfl, hr, hk⟩
  rw [hp] at hr ⊢
  exact ⟨rfl, h.turn ⟨lv, hr⟩ hl hk, hk⟩
theorem get_ok {w0 w : World} {g most : Nat} {l : List Sl} (i : Int) {id : Int} {x : ByteArray} {u : Bool} (h : RollOk w0 w g l most) (hp : getL l i = (id, x, u)) :
    Calls Try.prog 11 #[.pointer (some ⟨g, 0, none⟩), .int .i64 i] w fun e w' => e = .returned (.tuple #[.int .i64 id, .string x, .bool u]) ∧ RollOk w0 w' g l most ∧ Below w.heap.size w w' := by
  obtain ⟨lv, ha⟩ := h.at_
  refine (get_any g (g + 1) most i lv l w ha).mono ?_
  rintro e w' ⟨rfl, n, rfl⟩
  rw [hp]
  exact ⟨rfl, h.next (drawnN (Below.refl _ _) n), drawnN (Below.refl _ _) n⟩
theorem slot_ok {w0 w : World} {g most : Nat} {l : List Sl} (id : Int) (h : RollOk w0 w g l most) :
    Calls Try.prog 12 #[.pointer (some ⟨g, 0, none⟩), .int .i64 id] w fun e w' => e = .returned (.int .i64 (fnd (hasId id) l)) ∧ RollOk w0 w' g l most ∧ Below w.heap.size w w' := by
  obtain ⟨lv, ha⟩ := h.at_
  refine (slot_any g (g + 1) most id lv l w ha (by have := h.len; omega)).mono ?_
  rintro e w' ⟨rfl, hb⟩
  exact ⟨rfl, h.next hb, hb⟩
theorem len_ok {w0 w : World} {g most : Nat} {l : List Sl} (h : RollOk w0 w g l most) :
    Calls Try.prog 15 #[.pointer (some ⟨g, 0, none⟩)] w fun e w' => e = .returned (.int .i64 (many l : Int)) ∧ w = w' := by
  obtain ⟨lv, ha⟩ := h.at_
  exact len_any g (g + 1) most lv l w ha
theorem slots_ok {w0 w : World} {g most : Nat} {l : List Sl} (h : RollOk w0 w g l most) :
    Calls Try.prog 18 #[.pointer (some ⟨g, 0, none⟩)] w fun e w' => SlotsPost l w e w' ∧ RollOk w0 w' g l most := by
  obtain ⟨lv, ha⟩ := h.at_
  refine (slots_any g (g + 1) most lv l w ha h.len).mono ?_
  rintro e w' ⟨v, rfl, hv, hb⟩
  exact ⟨⟨v, rfl, hv, hb⟩, h.next hb⟩

set_option maxRecDepth 100000 in
set_option maxHeartbeats 4000000 in
theorem works37 (w : World) : Calls Try.prog 6 #[] w fun e w' => e = .returned (.bool true) ∧ Below w.heap.size w w' := by
  go_enter Try.func6, Try.ntmps6
  go_wp2_with fail
  refine (new_yes 2 _ (by omega) (by omega)).mono ?_; rintro e w' ⟨rfl, rfl⟩
  have h0 : RollOk w (w.alloc (.cells #[.slice none 0 0, .int .i64 2, .int .i64 0] 59)) w.heap.size [] 2 := roll_new 2 w
  generalize w.alloc (.cells #[.slice none 0 0, .int .i64 ((2 : Nat) : Int), .int .i64 0] 59) = w0 at *
  go_wp2_with fail
  refine (newInt_no _).mono ?_; rintro e w' ⟨rfl, rfl⟩
  go_wp2_with fail
  refine (put_ok h0 (by omega) (by decide) rl1).mono ?_; rintro e w1 ⟨rfl, h1, _⟩
  clear h0
  go_wp2_with fail
  refine (put_ok h1 (by omega) (by decide) rl2).mono ?_; rintro e w2 ⟨rfl, h2, _⟩
  clear h1
  go_wp2_with fail
  refine (put_ok h2 (by omega) (by decide) rl3).mono ?_; rintro e w3 ⟨rfl, h3, _⟩
  clear h2
  go_wp2_with fail
  refine (put_ok h3 (by omega) (by decide) rl4).mono ?_; rintro e w4 ⟨rfl, h4, _⟩
  clear h3
  go_wp2_with fail
  refine (drop_ok h4 (by decide) rl5).mono ?_; rintro e w5 ⟨rfl, h5, _⟩
  clear h4
  go_wp2_with fail
  refine (put_ok h5 (by omega) (by decide) rl6).mono ?_; rintro e w6 ⟨rfl, h6, _⟩
  clear h5
  go_wp2_with fail
  refine (get_ok 0 h6 rl7).mono ?_; rintro e w7 ⟨rfl, h7, _⟩
  clear h6
  go_wp2_with fail
  refine (get_ok 2 h7 rl8).mono ?_; rintro e w8 ⟨rfl, h8, _⟩
  clear h7
  obtain ⟨q1, q2, q3, q4⟩ := rl9
  go_wp2_with fail
  refine (len_ok h8).mono ?_; rintro e w' ⟨rfl, rfl⟩
  rw [q1]
  go_wp2_with fail
  refine (slot_ok 71 h8).mono ?_; rintro e w9 ⟨rfl, h9, _⟩
  rw [q2]
  clear h8
  go_wp2_with fail
  refine (slot_ok 70 h9).mono ?_; rintro e w10 ⟨rfl, h10, _⟩
  rw [q3]
  clear h9
  go_wp2_with fail
  refine (slots_ok h10).mono ?_; rintro e w11 ⟨⟨v, rfl, hv, _⟩, h11⟩
  rw [q4] at hv
  clear h10
  go_wp2_with fail
  refine (sameI _ w11.heap.size 2 v _ [0, 1] _ rfl (hv.alloc _) (World.ownsRow_lit w11 _ 2 (Nat.le_refl _) (by decide) rfl)).mono ?_
  rintro e w12 ⟨rfl, hb12⟩
  have hb := h11.below
  have hb13 := (hb.alloc hb.size (.cells #[.int .i64 0, .int .i64 1] 3)).trans (hb12.mono (by have := hb.size; simp; omega))
  clear h11 hv hb hb12
  go_wp2_with fail
  go_ret
  exact ⟨rfl, hb13⟩

end Go.Proofs.Ytgohdkjnmleblaa
