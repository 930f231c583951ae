/- The walks of Get, Drop and Put. -/
import Derived.Test.YtgohdkjnmleblaaRolA
import Derived.RangeFuncBox
namespace Go.Proofs.Ytgohdkjnmleblaa
open Go.RowKit
attribute [local go_sem ↓] Go.wp_at_zero Go.wp_at_succ

theorem slV_set : ∀ (l : List Sl) (k : Nat) (s : Sl), k < l.length → (((slV l).set (k * 3) (.int .i64 (idOf s))).set (k * 3 + 1) (.bool s.isSome)).set (k * 3 + 2) (.string (xOf s)) = slV (l.set k s)
  | a :: l, 0, s, _ => by rw [slV_cons, List.set_cons_zero, slV_cons]; rfl
  | a :: l, k + 1, s, h => by
    have ih := slV_set l k s (by simpa using h)
    rw [List.set_cons_succ, slV_cons, slV_cons, ← ih, show (k + 1) * 3 = k * 3 + 3 by omega]
    rfl
/-- A slot is written, and the count. -/
theorem slot_set {W : World} {g b g1 cap : Nat} {l : List Sl} {most m m' : Value} {k n : Nat} (s : Sl) (hn : l.length = n) (hw : Whole W g 59 #[.slice (some ⟨g1, 0, none⟩) n cap, most, m]) (ho : W.ownsRow b 61 3 (.slice (some ⟨g1, 0, none⟩) n cap) n (slV l)) (hgb : g < b) (hk : k < l.length) :
    Whole ((((W.setCell ⟨g1, k * 3, none⟩ (.int .i64 (idOf s))).setCell ⟨g1, k * 3 + 1, none⟩ (.bool s.isSome)).setCell ⟨g1, k * 3 + 2, none⟩ (.string (xOf s))).setCell ⟨g, 2, none⟩ m') g 59 #[.slice (some ⟨g1, 0, none⟩) n cap, most, m'] ∧
    ((((W.setCell ⟨g1, k * 3, none⟩ (.int .i64 (idOf s))).setCell ⟨g1, k * 3 + 1, none⟩ (.bool s.isSome)).setCell ⟨g1, k * 3 + 2, none⟩ (.string (xOf s))).setCell ⟨g, 2, none⟩ m').ownsRow b 61 3 (.slice (some ⟨g1, 0, none⟩) n cap) n (slV (l.set k s)) ∧
    Kept W ((((W.setCell ⟨g1, k * 3, none⟩ (.int .i64 (idOf s))).setCell ⟨g1, k * 3 + 1, none⟩ (.bool s.isSome)).setCell ⟨g1, k * 3 + 2, none⟩ (.string (xOf s))).setCell ⟨g, 2, none⟩ m') (fun i => i = g ∨ i = g1) := by
  subst hn
  have hb1 := (ho.lt g1 rfl).1
  obtain ⟨o1, r1⟩ := ho.stored (k * 3) (.int .i64 (idOf s))
  obtain ⟨o2, r2⟩ := o1.stored (k * 3 + 1) (.bool s.isSome)
  obtain ⟨o3, r3⟩ := o2.stored (k * 3 + 2) (.string (xOf s))
  rw [slV_set l k s hk] at o3
  have hne : (some g1 : Option Nat) ≠ some g := by intro e; cases e; omega
  have w3 := ((hw.grown r1 hne).grown r2 hne).grown r3 hne
  have k3 : Kept W (((W.setCell ⟨g1, k * 3, none⟩ (.int .i64 (idOf s))).setCell ⟨g1, k * 3 + 1, none⟩ (.bool s.isSome)).setCell ⟨g1, k * 3 + 2, none⟩ (.string (xOf s))) (fun i => i = g ∨ i = g1) :=
    (((Kept.refl W _).setCell _ _ (fun _ => .inr rfl)).setCell _ _ (fun _ => .inr rfl)).setCell _ _ (fun _ => .inr rfl)
  refine ⟨w3.setCell 2 m', ?_, k3.setCell _ _ (fun _ => .inl rfl)⟩
  have o4 : (((W.setCell ⟨g1, k * 3, none⟩ (.int .i64 (idOf s))).setCell ⟨g1, k * 3 + 1, none⟩ (.bool s.isSome)).setCell ⟨g1, k * 3 + 2, none⟩ (.string (xOf s))).ownsRow b 61 3 (.slice (some ⟨g1, 0, none⟩) l.length cap) l.length (slV (l.set k s)) := o3
  exact ownsRow_setCell_below o4 hgb m'

/-- The roll's own blocks: its head, and rows of slots. -/
def RS (w : World) (g b : Nat) (i : Nat) : Prop := i = g ∨ (b ≤ i ∧ ∃ cs, w.heap[i]? = some (.cells cs 61 (0, 0)))
theorem rs_row {w : World} {g b n i : Nat} {lv : Value} {xs : List Value} (h : w.ownsRow b 61 3 lv n xs) (hi : lv.ownBlock = some i) : RS w g b i := by
  rcases h.2 with ⟨rfl, _⟩ | ⟨g', cap, cur, rfl, hb, hh, _⟩
  · simp [Value.ownBlock] at hi
  · obtain rfl : g' = i := by simpa [Value.ownBlock] using hi
    exact .inr ⟨hb, cur, hh⟩
theorem rs_trans {w w4 w' : World} {g b g1 n cap : Nat} {xs : List Value} (hk : Kept w w4 (RS w g b)) (ho : w4.ownsRow b 61 3 (.slice (some ⟨g1, 0, none⟩) n cap) n xs) (h : Kept w4 w' (fun i => i = g ∨ i = g1)) : Kept w w' (RS w g b) :=
  hk.trans h (fun i hi hx => by
    rcases hx with hx | hx
    · exact .inl hx
    · subst hx
      by_cases hr : RS w g b i
      · exact hr
      · have e := hk.block i hi hr
        rcases rs_row (g := g) ho (i := i) rfl with h1 | ⟨h1, cs, h2⟩
        · exact .inl h1
        · exact .inr ⟨h1, cs, e ▸ h2⟩)
def getL (l : List Sl) (i : Int) : Int × ByteArray × Bool :=
  if h : 0 ≤ i ∧ i.toNat < l.length then (idOf (l[i.toNat]'h.2), xOf (l[i.toNat]'h.2), (l[i.toNat]'h.2).isSome) else (0, ⟨#[]⟩, false)
theorem none_zero {s : Sl} (h : s.isSome = false) : idOf s = 0 ∧ xOf s = ⟨#[]⟩ := by cases s <;> first | exact ⟨rfl, rfl⟩ | cases h

set_option maxRecDepth 100000 in
set_option maxHeartbeats 1000000 in
theorem get_any (g b most : Nat) (i : Int) (lv : Value) (l : List Sl) (w : World) (hr : RollAt w g b lv l most) :
    Calls Try.prog 11 #[.pointer (some ⟨g, 0, none⟩), .int .i64 i] w fun e w' => e = .returned (.tuple #[.int .i64 (getL l i).1, .string (getL l i).2.1, .bool (getL l i).2.2]) ∧ ∃ n, w' = w.drewN n := by
  obtain ⟨hw, ho⟩ := hr
  have hc0 := hw.cell 0
  obtain ⟨A, ca, rfl, hm, _, _, ha⟩ := own_form ho
  have HA := Lib.hid ha
  clear ho ha
  unfold maxLen at hm
  by_cases h0 : i < 0
  · have HG : Hid (getL l i = (0, ⟨#[]⟩, false)) := by unfold Hid getL; rw [dif_neg (by omega)]
    go_enter Try.func11, Try.ntmps11
    go_wp2
    go_ret3
    exact ⟨by rw [HG.out]; rfl, 0, rfl⟩
  · obtain ⟨k, rfl⟩ := Int.eq_ofNat_of_zero_le (show 0 ≤ i by omega)
    clear h0
    by_cases hk : k < l.length
    · have HG : Hid (getL l (k : Int) = (idOf l[k], xOf l[k], l[k].isSome)) := by unfold Hid getL; rw [dif_pos ⟨by omega, by simpa using hk⟩]; rfl
      obtain ⟨g1, rfl, _, hg1, c1⟩ := HA.out k hk (by omega)
      obtain ⟨l1, l2, l3⟩ := slV_at l k hk
      have d1 := (c1 (k * 3) (by omega)).trans l1
      have d2 := (c1 (k * 3 + 1) (by omega)).trans l2
      have d3 := (c1 (k * 3 + 2) (by omega)).trans l3
      have g0 : (0 : Int) ≤ (k : Int) := by omega
      have g3 : (k : Int) < (l.length : Int) := by omega
      clear c1 l1 l2 l3 hw HA
      generalize l[k] = s at *
      cases hs : s.isSome with
      | false =>
        obtain ⟨z1, z2⟩ := none_zero hs
        rw [hs] at d2
        rw [hs, z1, z2] at HG
        clear d1 d3 z1 z2
        go_enter Try.func11, Try.ntmps11
        go_wp2
        go_ret3
        exact ⟨by rw [HG.out]; rfl, 0, rfl⟩
      | true =>
        rw [hs] at d2 HG
        generalize idOf s = id at *
        generalize xOf s = x at *
        go_enter Try.func11, Try.ntmps11
        go_wp2
        go_quiet (fail)
        go_wp2
        go_ret3
        exact ⟨by rw [HG.out]; rfl, _, rfl⟩
    · have HG : Hid (getL l (k : Int) = (0, ⟨#[]⟩, false)) := by unfold Hid getL; rw [dif_neg (by simpa using hk)]
      have hk' : (l.length : Int) ≤ (k : Int) := by omega
      go_enter Try.func11, Try.ntmps11
      go_wp2
      go_ret3
      exact ⟨by rw [HG.out]; rfl, 0, rfl⟩

def DropPost (g b most : Nat) (id : Int) (lv : Value) (l : List Sl) (w : World) (e : Ending) (w' : World) : Prop :=
  e = .returned (.bool (dropL l id).2) ∧ RollAt w' g b lv (dropL l id).1 most ∧ Kept w w' (RS w g b)

set_option maxRecDepth 100000 in
set_option maxHeartbeats 1000000 in
theorem drop_any (g b most : Nat) (id : Int) (lv : Value) (l : List Sl) (w : World) (hr : RollAt w g b lv l most) (hl : l.length ≤ 50000) (hgb : g < b) :
    Calls Try.prog 9 #[.pointer (some ⟨g, 0, none⟩), .int .i64 id] w fun e w' => DropPost g b most id lv l w e w' := by
  rcases fnd_cases (hasId id) l with ⟨k, hk, hf, hp, _⟩ | ⟨hf, _⟩
  · have HD : Hid (dropL l id = (l.set k none, true)) := by unfold Hid dropL; rw [if_pos (by rw [hf]; omega), hf]; rfl
    have hs : l[k].isSome = true := by unfold hasId at hp; rw [Bool.and_eq_true] at hp; exact hp.1
    have hmd := many_drop l k hk hs
    have hml := many_le l
    have hm1 : IntKind.i64.wrap ((many l : Int) - 1) = (many (l.set k none) : Int) := by
      rw [show (many l : Int) - 1 = (many (l.set k none) : Int) by omega]; exact IntWalk.i64_in _ (by omega)
    clear hp hs
    go_enter Try.func9, Try.ntmps9
    go_wp2_with fail
    refine (slot_any g b most id lv l w hr (by omega)).mono ?_
    rintro e w1 ⟨rfl, hb1⟩
    rw [hf]
    obtain ⟨hw, ho⟩ := hr.below hb1
    obtain ⟨A, ca, rfl, hm, _, _, ha⟩ := own_form ho
    obtain ⟨g1, rfl, hbg, hg1, c1⟩ := ha k hk (by omega)
    obtain ⟨l1, l2, l3⟩ := slV_at l k hk
    have d1 := (c1 (k * 3) (by omega)).trans l1
    have d2 := (c1 (k * 3 + 1) (by omega)).trans l2
    have d3 := (c1 (k * 3 + 2) (by omega)).trans l3
    have f1 := ho.frozenAt (k * 3)
    have f2 := ho.frozenAt (k * 3 + 1)
    have f3 := ho.frozenAt (k * 3 + 2)
    have hc0 := hw.cell 0
    have hc2 := hw.cell 2
    have hfz := hw.frozen 2
    have g0 : (0 : Int) ≤ (k : Int) := by omega
    have g3 : (k : Int) < (l.length : Int) := by omega
    clear c1 l1 l2 l3 hf ha
    go_wp2
    go_ret
    obtain ⟨a1, a2, a3⟩ := slot_set (m' := .int .i64 (many (l.set k none) : Int)) none rfl hw ho hgb hk
    exact ⟨by rw [HD.out]; rfl, by rw [HD.out]; exact ⟨a1, by rw [List.length_set]; exact a2⟩, rs_trans (Kept.of_below hb1) ho a3⟩
  · have HD : Hid (dropL l id = (l, false)) := by unfold Hid dropL; rw [if_neg (by rw [hf]; omega)]
    go_enter Try.func9, Try.ntmps9
    go_wp2_with fail
    refine (slot_any g b most id lv l w hr (by omega)).mono ?_
    rintro e w1 ⟨rfl, hb1⟩
    rw [hf]
    go_wp2
    go_ret
    exact ⟨by rw [HD.out]; rfl, by rw [HD.out]; exact hr.below hb1, Kept.of_below hb1⟩

def PutPost (g b most : Nat) (id : Int) (x : ByteArray) (l : List Sl) (w : World) (e : Ending) (w' : World) : Prop :=
  e = .returned (.tuple #[.int .i64 (putL l most id x).2.1, .int .i64 (putL l most id x).2.2]) ∧ ∃ lv', RollAt w' g b lv' (putL l most id x).1 most ∧ Kept w w' (RS w g b)

set_option maxRecDepth 100000 in
set_option maxHeartbeats 2000000 in
theorem put_any (g b most : Nat) (id : Int) (x : ByteArray) (lv : Value) (l : List Sl) (w : World) (hr : RollAt w g b lv l most) (hm0 : 1 ≤ most) (hl : l.length ≤ 50000) (hgb : g < b) (hbs : b ≤ w.heap.size) :
    Calls Try.prog 14 #[.pointer (some ⟨g, 0, none⟩), .int .i64 id, .string x] w fun e w' => PutPost g b most id x l w e w' := by
  obtain ⟨i0, hi, hz0, hz1, hz2⟩ := info_parts Try.info61
  have hmz : ((most : Int) == 0) = false := by rw [beq_eq_false_iff_ne]; omega
  have hmz' : ((most : Int) = 0) = False := by simp; omega
  have hcm := hr.at_.cell 1
  rcases fnd_cases (hasId id) l with ⟨k, hk, hf, hp, _⟩ | ⟨hf, _⟩
  · have HD : Hid (putL l most id x = (l, -1, 8)) := by unfold Hid putL; rw [if_pos (by rw [hf]; omega)]
    clear hp
    go_enter Try.func14, Try.ntmps14
    go_wp2_with fail
    refine (slot_any g b most id lv l w hr (by omega)).mono ?_
    rintro e w1 ⟨rfl, hb1⟩
    rw [hf]
    go_wp2
    go_ret2
    exact ⟨by rw [HD.out]; rfl, lv, by rw [HD.out]; exact hr.below hb1, Kept.of_below hb1⟩
  · by_cases hfull : most ≤ many l
    · have HD : Hid (putL l most id x = (l, -1, 6)) := by unfold Hid putL; rw [if_neg (by rw [hf]; omega), if_pos hfull]
      have hfi : (most : Int) ≤ (many l : Int) := by omega
      go_enter Try.func14, Try.ntmps14
      go_wp2_with fail
      refine (slot_any g b most id lv l w hr (by omega)).mono ?_
      rintro e w1 ⟨rfl, hb1⟩
      rw [hf]
      have hr1 := hr.below hb1
      have hc1 := hr1.at_.cell 1
      have hc2 := hr1.at_.cell 2
      go_wp2
      go_quiet (fail)
      go_wp2
      go_ret2
      exact ⟨by rw [HD.out]; rfl, lv, by rw [HD.out]; exact ⟨hr1.at_, hr1.row⟩, Kept.of_below (drawnN hb1 _)⟩
    · have hfi : ¬ (most : Int) ≤ (many l : Int) := by omega
      have hml := many_le l
      rcases fnd_cases free l with ⟨k, hk, hf2, hp2, _⟩ | ⟨hf2, _⟩
      · have HD : Hid (putL l most id x = (l.set k (some (id, x)), (k : Int), 0)) := by unfold Hid putL; rw [if_neg (by rw [hf]; omega), if_neg hfull, if_pos (by rw [hf2]; omega), hf2]; rfl
        have hnn : l[k] = none := by cases hs : l[k] with | none => rfl | some p => rw [hs] at hp2; cases hp2
        have hmd := many_put l k hk (id, x) hnn
        have hm1 : IntKind.i64.wrap ((many l : Int) + 1) = (many (l.set k (some (id, x))) : Int) := by
          rw [show (many l : Int) + 1 = (many (l.set k (some (id, x))) : Int) by omega]; exact IntWalk.i64_in _ (by omega)
        clear hp2 hnn hmd
        go_enter Try.func14, Try.ntmps14
        go_wp2_with fail
        refine (slot_any g b most id lv l w hr (by omega)).mono ?_
        rintro e w1 ⟨rfl, hb1⟩
        rw [hf]
        have hr1 := hr.below hb1
        have hc1 := hr1.at_.cell 1
        have hc2 := hr1.at_.cell 2
        go_wp2
        go_quiet (fail)
        have hr2 : RollAt (w1.drewN nq) g b lv l most := ⟨hr1.at_, hr1.row⟩
        have hb2 : Below w.heap.size w (w1.drewN nq) := drawnN hb1 _
        have hr0 := hr
        clear hr1 hb1 hc1 hc2 hr hcm
        generalize w1.drewN nq = w2 at *
        go_wp2_with fail
        refine (find_free g b most lv l w2 hr2 (by omega)).mono ?_
        rintro e w3 ⟨rfl, hb3⟩
        rw [hf2]
        have hb4 := below_then hb2 hb3
        obtain ⟨hw, ho⟩ := hr2.below hb3
        obtain ⟨A, ca, rfl, hm, _, _, ha⟩ := own_form ho
        have hc0 := hw.cell 0
        have hz0' := hw.frozen 0
        clear hr2 hb2 hb3 hf hf2
        obtain ⟨g1, rfl, hbg, hg1, c1⟩ := ha k hk (by omega)
        obtain ⟨l1, l2, l3⟩ := slV_at l k hk
        have d1 := (c1 (k * 3) (by omega)).trans l1
        have d2 := (c1 (k * 3 + 1) (by omega)).trans l2
        have d3 := (c1 (k * 3 + 2) (by omega)).trans l3
        have f1 := ho.frozenAt (k * 3)
        have f2 := ho.frozenAt (k * 3 + 1)
        have f3 := ho.frozenAt (k * 3 + 2)
        have hc2 := hw.cell 2
        have hfz := hw.frozen 2
        have g0 : (0 : Int) ≤ (k : Int) := by omega
        have g3 : (k : Int) < (l.length : Int) := by omega
        clear c1 l1 l2 l3 ha
        go_wp2
        go_ret2
        obtain ⟨a1, a2, a3⟩ := slot_set (m' := .int .i64 (many (l.set k (some (id, x))) : Int)) (some (id, x)) rfl hw ho hgb hk
        exact ⟨by rw [HD.out]; rfl, _, by rw [HD.out]; exact ⟨a1, by rw [List.length_set]; exact a2⟩, rs_trans (Kept.of_below hb4) ho a3⟩
      · have HD : Hid (putL l most id x = (l ++ [some (id, x)], (l.length : Int), 0)) := by unfold Hid putL; rw [if_neg (by rw [hf]; omega), if_neg hfull, if_neg (by rw [hf2]; omega)]
        have hmd := many_some l (id, x)
        have hm1 : IntKind.i64.wrap ((many l : Int) + 1) = (many (l ++ [some (id, x)]) : Int) := by
          rw [show (many l : Int) + 1 = (many (l ++ [some (id, x)]) : Int) by omega]; exact IntWalk.i64_in _ (by omega)
        clear hmd
        go_enter Try.func14, Try.ntmps14
        go_wp2_with fail
        refine (slot_any g b most id lv l w hr (by omega)).mono ?_
        rintro e w1 ⟨rfl, hb1⟩
        rw [hf]
        have hr1 := hr.below hb1
        have hc1 := hr1.at_.cell 1
        have hc2 := hr1.at_.cell 2
        go_wp2
        go_quiet (fail)
        have hr2 : RollAt (w1.drewN nq) g b lv l most := ⟨hr1.at_, hr1.row⟩
        have hb2 : Below w.heap.size w (w1.drewN nq) := drawnN hb1 _
        have hr0 := hr
        clear hr1 hb1 hc1 hc2 hr hcm
        generalize w1.drewN nq = w2 at *
        go_wp2_with fail
        refine (find_free g b most lv l w2 hr2 (by omega)).mono ?_
        rintro e w3 ⟨rfl, hb3⟩
        rw [hf2]
        have hb4 := below_then hb2 hb3
        obtain ⟨hw, ho⟩ := hr2.below hb3
        obtain ⟨A, ca, rfl, hm, _, _, ha⟩ := own_form ho
        have hc0 := hw.cell 0
        have hz0' := hw.frozen 0
        clear hr2 hb2 hb3 hf hf2
        clear ha
        go_wp2_with (at_builtin; refine wpList_append_own _ rfl _ _ 57 rfl b 61 i0 (.agg #[.int .i64 0, .bool false, .string ⟨#[]⟩]) 3 32 Try.underlying57 hi hz0 hz1 hz2 rfl (by decide) _ _ _ rfl (ho.alloc _) ⟨_, 0, none⟩ 1 1 (slC none) rfl rfl ?c1 (slC_one _) ?c3 ?c4 ?c5 ?_)
        case c1 => exact World.news_of_block (cs := #[.int .i64 0, .bool false, .string ⟨#[]⟩]) (heap_alloc_new w3 _)
        case c3 => unfold maxLen; omega
        case c4 => omega
        case c5 => have := hb4.size; simp; omega
        intro v' w4 ho4 hgrow _
        obtain ⟨g1, cap', rfl⟩ := ownsRow_succ ho4
        rw [← slV_one, ← slV_append] at ho4
        have hne : (Value.slice A l.length ca).ownBlock ≠ some g := fun e => by have := (ho.lt g e).1; omega
        have hw4 := (hw.alloc (.cells #[.int .i64 0, .bool false, .string ⟨#[]⟩] 61)).grown hgrow hne
        have hk4 : Kept w w4 (RS w g b) := ((Kept.of_below hb4).alloc _).grown hgrow (fun i hi _ => rs_row hr0.row hi)
        have hc4 := hw4.cell 0
        have hf4 := hw4.frozen 0
        have hc2 := hw4.cell 2
        have hfz := hw4.frozen 2
        have hln : (l ++ [(none : Sl)]).length = l.length + 1 := by simp
        obtain ⟨l1, l2, l3⟩ := slV_at (l ++ [none]) l.length (by simp)
        have d1 := (ho4.cellAt (l.length * 3) (by omega)).trans l1
        have d2 := (ho4.cellAt (l.length * 3 + 1) (by omega)).trans l2
        have d3 := (ho4.cellAt (l.length * 3 + 2) (by omega)).trans l3
        have f1 := ho4.frozenAt (l.length * 3)
        have f2 := ho4.frozenAt (l.length * 3 + 1)
        have f3 := ho4.frozenAt (l.length * 3 + 2)
        have hg1 : g1 ≠ g := fun e => by have := (ho4.lt g1 rfl).1; omega
        have hg2 : g ≠ g1 := Ne.symm hg1
        have g0 : (0 : Int) ≤ (l.length : Int) := by omega
        have g3 : (l.length : Int) < (l.length : Int) + 1 := by omega
        clear l1 l2 l3 ho hw hgrow hb4 hc0 hz0' hln
        go_wp2
        go_ret2
        have hw5 := hw4.setCell 0 (.slice (some ⟨g1, 0, none⟩) (l.length + 1) cap')
        have ho5 := ownsRow_setCell_below ho4 (a := ⟨g, 0, none⟩) hgb (.slice (some ⟨g1, 0, none⟩) (l.length + 1) cap')
        have hk5 := hk4.setCell (⟨g, 0, none⟩ : Addr) (.slice (some ⟨g1, 0, none⟩) (l.length + 1) cap') (fun _ => .inl rfl)
        obtain ⟨a1, a2, a3⟩ := slot_set (l := l ++ [none]) (k := l.length) (m' := .int .i64 (many (l ++ [some (id, x)]) : Int)) (some (id, x)) (by simp) hw5 ho5 hgb (by simp)
        have hst : (l ++ [(none : Sl)]).set l.length (some (id, x)) = l ++ [some (id, x)] := by rw [List.set_append_right _ _ (Nat.le_refl _), Nat.sub_self]; rfl
        rw [hst] at a2
        exact ⟨by rw [HD.out]; rfl, _, by rw [HD.out]; exact ⟨a1, by rw [List.length_append]; exact a2⟩, rs_trans hk5 ho5 a3⟩

end Go.Proofs.Ytgohdkjnmleblaa
