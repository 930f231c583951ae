/- The walks of Slots, and of the law's own slots. -/
import Derived.Test.YtgohdkjnmleblaaRolC
namespace Go.Proofs.Ytgohdkjnmleblaa
open Go.RowKit Go.Shelf
attribute [local go_sem] Oper.semAt_some

def idxV (ks : List Nat) : List Value := ks.map fun (k : Nat) => .int .i64 (k : Int)
theorem idxV_append (a b : List Nat) : idxV (a ++ b) = idxV a ++ idxV b := by simp [idxV]
def firsts (xs : List (Nat × ByteArray)) : List Nat := xs.map Prod.fst
theorem firsts_snoc (xs : List (Nat × ByteArray)) (x : Nat × ByteArray) : firsts (xs ++ [x]) = firsts xs ++ [x.1] := by simp [firsts]
theorem firsts_len (xs : List (Nat × ByteArray)) : (firsts xs).length = xs.length := by simp [firsts]

def SlotsPost (l : List Sl) (w : World) (e : Ending) (w' : World) : Prop :=
  ∃ v, e = .returned v ∧ w'.ownsRow w.heap.size 3 1 v (slotsOf l).length (idxV (slotsOf l)) ∧ Below w.heap.size w w'

set_option maxRecDepth 100000 in
set_option maxHeartbeats 2000000 in
theorem slots_any (g b most : Nat) (lv : Value) (l : List Sl) (w : World) (hr : RollAt w g b lv l most) (hl : l.length ≤ 50000) :
    Calls Try.prog 18 #[.pointer (some ⟨g, 0, none⟩)] w fun e w' => SlotsPost l w e w' := by
  obtain ⟨i0, hi, hz0, hz1, hz2⟩ := info_parts Try.info3
  refine (callsIn_wide (n := 3)).1 ?_
  refine callsIn_of_wp_marks Try.func18 rfl trivial ?_ rfl
  simp only [Try.ntmps18, List.size_toArray, List.length_cons, List.length_nil, Nat.reduceAdd, Nat.reduceSub, Array.replicate_succ, Array.replicate_zero, List.push_toArray, List.append_toArray, List.nil_append, List.cons_append]
  gi_wp2_with (refine ⟨trivial, ?_⟩; gi_at_call 25; refine (callsIn_wide.2 (all_any _ _)).mono ?_; rintro e w' ⟨rfl, rfl⟩)
  have bO := (Boxed.new w 47 (.slice none 0 0)).alloc (.cells #[.pointer (some ⟨g, 0, none⟩)] 24)
  have bN := Boxed.new (w.alloc (.cells #[.slice none 0 0] 47)) 24 (.pointer (some ⟨g, 0, none⟩))
  rw [World.size_alloc] at bN
  have hB0 : Below w.heap.size w ((w.alloc (.cells #[.slice none 0 0] 47)).alloc (.cells #[.pointer (some ⟨g, 0, none⟩)] 24)) := ((Below.refl _ w).alloc (Nat.le_refl _) _).alloc (by simp) _
  have hr0 := hr.below hB0
  have hsz0 : ((w.alloc (.cells #[.slice none 0 0] 47)).alloc (.cells #[.pointer (some ⟨g, 0, none⟩)] 24)).heap.size = w.heap.size + 2 := by simp
  have hgl := hr.at_.lt
  have hrl := fun i hi => (hr.row.lt i hi).2
  generalize (w.alloc (.cells #[.slice none 0 0] 47)).alloc (.cells #[.pointer (some ⟨g, 0, none⟩)] 24) = W0 at *
  refine wpIn_rangeFunc_ownG (a := _) rfl (by omega) (gf := 26) (lb := #[.pointer (some ⟨w.heap.size + 1, 0, none⟩)]) rfl trivial (enters_of Try.func26 (by kernel_rfl) rfl)
    (all_stops _ (by omega) (w.heap.size + 1) w.heap.size g b most lv l hl W0 (by omega) bN.cell hr0 hgl hrl) kpr_t (kpr_b (by omega) (by omega)) (Below.refl _ _) (fun _ => rfl)
    (fun pre W => ((∃ v, Boxed W w.heap.size 47 v ∧ W.ownsRow w.heap.size 3 1 v (firsts pre).length (idxV (firsts pre)) ∧ True) ∧ Boxed W (w.heap.size + 1) 24 (.pointer (some ⟨g, 0, none⟩))) ∧ Below w.heap.size w W)
    (fun _ _ _ => False)
    (OwnFrom.and (OwnFrom.and (Own.from (holdsRow_own w.heap.size w.heap.size 47 3 1 (fun pre => (firsts pre).length) (fun pre => idxV (firsts pre)) (fun _ _ => True)) _) (Own.from (boxed_own _ _ _) _)) (ownFrom_below (Nat.le_refl _) (by omega)))
    (fun _ _ _ _ _ hs _ _ => hs)
    ⟨⟨⟨_, bO, World.ownsRow_nil _ _ _ _, trivial⟩, bN⟩, hB0⟩
    (fun x => { tmps := #[.pointer (some ⟨g, 0, none⟩), undef, .slice none 0 0, .pointer (some ⟨w.heap.size, 0, none⟩), .int .i64 (x.1 : Int), .pointer (some ⟨g, 0, none⟩), .func (.func 26) #[] #[.pointer (some ⟨w.heap.size + 1, 0, none⟩)], .int .i64 (x.1 : Int), .string x.2, undef, undef, undef, undef, undef], defers := [] }) ?assign ?body ?done ?stop
  case assign =>
    intro l x W K hK
    gi_wp2
    exact hK
  case body =>
    rintro lp pre x W ⟨⟨⟨v, hv, hrow, _⟩, hbn⟩, hB⟩ hlt
    have hc := hv.cell
    have hpl : (firsts pre).length < l.length := by rw [firsts_len]; exact hlt
    gi_wp2_with (gi_at_builtin; refine wpListIn_append_own _ rfl _ _ 47 rfl w.heap.size 3 i0 (.int .i64 0) 1 8 Try.underlying47 hi hz0 hz1 hz2 rfl (by decide) _ _ _ rfl (hrow.alloc _) ⟨W.heap.size, 0, none⟩ 1 1 [.int .i64 (x.1 : Int)] rfl rfl (cell_one_new _ _ _) (by simp [Value.oneCell']) (by unfold maxLen; omega) (by omega) (by have := hB.size; simp; omega) ?_; intro v' w1 hown' hgrow _; obtain ⟨g', cap', rfl⟩ := ownsRow_succ hown'; obtain ⟨hv1, hv2, hr2, hk2, hb2⟩ := hv.appended (by decide) hrow hB.size (Nat.le_refl _) hown' hgrow; have hc1 := hv1.cell; have hf1 := hv1.frozen)
    have hbn3 := ((hbn.alloc (.cells #[.int .i64 (x.1 : Int)] 3)).kept hgrow (hbn.not_row (by decide) hrow)).other (show w.heap.size + 1 ≠ w.heap.size by omega) (.slice (some ⟨g', 0, none⟩) ((firsts pre).length + 1) cap')
    exact ⟨hk2.from _, ⟨hb2, (show _ = _ from hbn3).trans (show _ = _ from hbn).symm⟩, ⟨⟨_, hv2, by rw [firsts_snoc, List.length_append, idxV_append]; exact hr2, trivial⟩, hbn3⟩, hB.trans hb2⟩
  case done =>
    rintro D ys W hD rfl ⟨⟨⟨v, hv, hrow, _⟩, _⟩, hB⟩ hK
    have hc := hv.cell
    gi_wp2
    refine ⟨by simp, .inl ⟨_, _, rfl, run_takeDeferred hK, ?_⟩⟩
    exact ⟨_, results_tmp rfl _ _ _, v, rfl, ownsRow_putObj hrow _ hK rfl, hB.trans (belowK_b (w := w) (Nat.le_refl _) W D _ _ (by omega) hK rfl rfl)⟩
  case stop =>
    rintro D c pre W _ _ h _
    exact h.elim

/-- Is what is kept in a slot what was yielded for it? -/
def okAt (l : List Sl) (x : Nat × ByteArray) : Bool := (getL l (x.1 : Int)).2.2 && ((getL l (x.1 : Int)).2.1.toList == x.2.toList)
def LawSlotsPost (l : List Sl) (m : Nat) (w : World) (e : Ending) (w' : World) : Prop :=
  ∃ v, e = .returned (.tuple #[v, .bool true]) ∧ w'.ownsRow w.heap.size 3 1 v ((slotsOf l).take m).length (idxV ((slotsOf l).take m)) ∧ Below w.heap.size w w'
/-- Between two rounds of the law's loop. -/
structure LawI (w : World) (b g m : Nat) (ks : List Nat) (F : Bool) (W : World) : Prop where
  out : ∃ v, Boxed W (b + 1 + 1) 47 v ∧ W.ownsRow (b + 5) 3 1 v ks.length (idxV ks) ∧ True
  roll : Boxed W b 24 (.pointer (some ⟨g, 0, none⟩))
  most : Boxed W (b + 1) 3 (.int .i64 (m : Int))
  fine : Boxed W (b + 1 + 1 + 1) 4 (.bool F)
  it : Boxed W (b + 1 + 1 + 1 + 1) 24 (.pointer (some ⟨g, 0, none⟩))
  below : Below w.heap.size w W

theorem lawI_own {β : Type} {w : World} {b g m B : Nat} (ks : β → List Nat) (F : β → Bool) (hB : w.heap.size ≤ B) : OwnFrom B (fun s W => LawI w b g m (ks s) (F s) W) := fun s X Y row hs hg hr =>
  ⟨Own.from (holdsRow_own (b + 5) (b + 1 + 1) 47 3 1 (fun s => (ks s).length) (fun s => idxV (ks s)) (fun _ _ => True)) B s X Y row hs.out hg hr,
   Own.from (boxed_own b 24 (fun (_ : β) => Value.pointer (some ⟨g, 0, none⟩))) B s X Y row hs.roll hg hr,
   Own.from (boxed_own (b + 1) 3 (fun (_ : β) => Value.int .i64 (m : Int))) B s X Y row hs.most hg hr,
   Own.from (boxed_own (b + 1 + 1 + 1) 4 (fun s => Value.bool (F s))) B s X Y row hs.fine hg hr,
   Own.from (boxed_own (b + 1 + 1 + 1 + 1) 24 (fun (_ : β) => Value.pointer (some ⟨g, 0, none⟩))) B s X Y row hs.it hg hr,
   (ownFrom_below (β := β) (w₀ := w) (Nat.le_refl _) hB) s X Y row hs.below hg hr⟩
theorem boxed_kept {w w' : World} {B : Nat} {t : TypeId} {v : Value} {S : Nat → Prop} (h : Boxed w B t v) (k : Kept w w' S) (hs : ¬ S B) : Boxed w' B t v := (k.block B h.lt hs).trans h
theorem KeepsFrom.from_same {W w2 w3 : World} {B : Nat} (h : KeepsFrom B w2 w3) (k : Kept W w2 (fun _ => False)) : KeepsFrom B W w3 :=
  ⟨Nat.le_trans k.size h.size, fun i o hB hi ho => h.same i o hB ((k.block i (Array.getElem?_eq_some_iff.1 hi).1 (fun x => x)).trans hi) ho⟩
theorem kpr_same {W w2 : World} {n Bn : Nat} (k : Kept W w2 (fun _ => False)) (hn : n ≤ W.heap.size) (hB : Bn < W.heap.size) : KpR n Bn W w2 :=
  ⟨k.below (fun _ h => h.elim) hn, k.block Bn hB (fun x => x)⟩
theorem row_fine {W : World} {b : Nat} {v : Value} {n : Nat} {xs : List Value} (hrow : W.ownsRow (b + 5) 3 1 v n xs) (u : Value) : (W.setCell ⟨b + 1 + 1 + 1, 0, none⟩ u).ownsRow (b + 5) 3 1 v n xs :=
  ownsRow_setCell_below hrow (by show b + 1 + 1 + 1 < b + 5; omega) u
theorem law_fin {w W w4 : World} {b g m k : Nat} {ks : List Nat} {F F' : Bool} {v v' : Value} {tmp : Obj} (hb : w.heap.size ≤ b) (hI : LawI w b g m ks F W) (hv : Boxed W (b + 1 + 1) 47 v) (hrow : W.ownsRow (b + 5) 3 1 v ks.length (idxV ks))
    (hrow4 : w4.ownsRow (b + 5) 3 1 v' (ks.length + 1) (idxV ks ++ [.int .i64 (k : Int)])) (hgrow : ((W.setCell ⟨b + 1 + 1 + 1, 0, none⟩ (.bool F')).alloc tmp).grownBy w4 v.ownBlock) :
    LawI w b g m (ks ++ [k]) F' (w4.setCell ⟨b + 1 + 1, 0, none⟩ v') ∧ KpR w.heap.size (b + 1 + 1 + 1 + 1) W (w4.setCell ⟨b + 1 + 1, 0, none⟩ v') ∧ ∀ B, KeepsFrom B W (w4.setCell ⟨b + 1 + 1, 0, none⟩ v') := by
  have hk : Kept W (w4.setCell ⟨b + 1 + 1, 0, none⟩ v') (fun i => i = b + 1 + 1 + 1 ∨ i = b + 1 + 1 ∨ v.ownBlock = some i) :=
    ((((Kept.refl W _).setCell _ _ (fun _ => .inl rfl)).alloc tmp).grown hgrow (fun i hi _ => .inr (.inr hi))).setCell _ _ (fun _ => .inr (.inl rfl))
  have hge : ∀ i, v.ownBlock = some i → b + 5 ≤ i := fun i hi => (hrow.lt i hi).1
  have hno : ∀ j, j < b + 5 → j ≠ b + 1 + 1 + 1 → j ≠ b + 1 + 1 → ¬ (j = b + 1 + 1 + 1 ∨ j = b + 1 + 1 ∨ v.ownBlock = some j) := fun j hj h1 h2 hx => by
    rcases hx with h | h | h
    · exact h1 h
    · exact h2 h
    · have := hge j h; omega
  have hne : ∀ j, j < b + 5 → some j ≠ v.ownBlock := fun j hj e => by have := hge j e.symm; omega
  have hf4 := ((hI.fine.set (.bool F')).alloc tmp).kept hgrow (hne _ (by omega))
  have hv4 := ((hv.other (show b + 1 + 1 ≠ b + 1 + 1 + 1 by omega) (.bool F')).alloc tmp).kept hgrow (hne _ (by omega))
  have hit := boxed_kept hI.it hk (hno _ (by omega) (by omega) (by omega))
  have hbel : Below w.heap.size W (w4.setCell ⟨b + 1 + 1, 0, none⟩ v') := hk.below (fun i hi => by
    rcases hi with h | h | h
    · omega
    · omega
    · have := hge i h; omega) (Nat.le_trans hb (Nat.le_of_lt hI.roll.lt))
  have hrow5 : (w4.setCell ⟨b + 1 + 1, 0, none⟩ v').ownsRow (b + 5) 3 1 v' (ks ++ [k]).length (idxV (ks ++ [k])) := by
    rw [List.length_append, idxV_append]
    exact ownsRow_setCell_below hrow4 (by show b + 1 + 1 < b + 5; omega) v'
  refine ⟨⟨⟨v', hv4.set v', hrow5, trivial⟩, boxed_kept hI.roll hk (hno _ (by omega) (by omega) (by omega)), boxed_kept hI.most hk (hno _ (by omega) (by omega) (by omega)), hf4.other (by omega) _, hit, hI.below.trans hbel⟩, ⟨hbel, (show _ = _ from hit).trans (show _ = _ from hI.it).symm⟩, fun B => ⟨hk.size, fun k' o _ hk' ho => ?_⟩⟩
  refine (hk.block k' (Array.getElem?_eq_some_iff.1 hk').1 (fun hx => ?_)).trans hk'
  rcases hx with h | h | h
  · subst h; rw [show W.heap[b + 1 + 1 + 1]? = _ from hI.fine] at hk'; cases hk'; cases ho
  · subst h; rw [show W.heap[b + 1 + 1]? = _ from hv] at hk'; cases hk'; cases ho
  · rcases hrow.2 with ⟨rfl, _⟩ | ⟨g', cap, cur, rfl, _, hh, _⟩
    · simp [Value.ownBlock] at h
    · obtain rfl : g' = k' := by simpa [Value.ownBlock] using h
      rw [hh] at hk'; cases hk'; cases ho
theorem pre_take {l : List Sl} {m : Nat} {ps : List (Nat × ByteArray)} (h : ps <+: items l) (hm : m ≤ ps.length) : (firsts ps).take m = (slotsOf l).take m := by
  obtain ⟨r, hr⟩ := h
  unfold slotsOf
  rw [← hr, List.map_append, List.take_append_of_le_length (by simpa using hm)]
  rfl
theorem ok_all {l : List Sl} : ∀ {ps : List (Nat × ByteArray)}, (∀ x ∈ ps, x ∈ items l) → ps.all (okAt l) = true := fun {ps} h => by
  rw [List.all_eq_true]
  intro x hx
  obtain ⟨h1, id, h2⟩ := items_get l x.1 x.2 (h x hx)
  unfold okAt getL
  rw [dif_pos ⟨by omega, by simpa using h1⟩]
  simp [h2, xOf]

set_option maxRecDepth 100000 in
set_option maxHeartbeats 4000000 in
theorem lawSlots_any (g b most m : Nat) (lv : Value) (l : List Sl) (w : World) (hr : RollAt w g b lv l most) (hl : l.length ≤ 50000) (hm : m ≤ 1000) :
    Calls Try.prog 20 #[.pointer (some ⟨g, 0, none⟩), .int .i64 (m : Int)] w fun e w' => LawSlotsPost l m w e w' := by
  obtain ⟨i0, hi, hz0, hz1, hz2⟩ := info_parts Try.info3
  refine (callsIn_wide (n := 3)).1 ?_
  refine callsIn_of_wp_marks Try.func20 rfl trivial ?_ rfl
  simp only [Try.ntmps20, List.size_toArray, List.length_cons, List.length_nil, Nat.reduceAdd, Nat.reduceSub, Array.replicate_succ, Array.replicate_zero, List.push_toArray, List.append_toArray, List.nil_append, List.cons_append]
  gi_wp2_with (refine ⟨trivial, ?_⟩; gi_at_call 25; refine (callsIn_wide.2 (all_any _ _)).mono ?_; rintro e w' ⟨rfl, rfl⟩)
  have hr0 : LawI w w.heap.size g m (firsts []) (([] : List (Nat × ByteArray)).all (okAt l)) (((((w.alloc (.cells #[.pointer (some ⟨g, 0, none⟩)] 24)).alloc (.cells #[.int .i64 (m : Int)] 3)).alloc (.cells #[.slice none 0 0] 47)).alloc (.cells #[.bool true] 4)).alloc (.cells #[.pointer (some ⟨g, 0, none⟩)] 24)) := by
    have b0 := ((((Boxed.new w 24 (.pointer (some ⟨g, 0, none⟩))).alloc (.cells #[.int .i64 (m : Int)] 3)).alloc (.cells #[.slice none 0 0] 47)).alloc (.cells #[.bool true] 4)).alloc (.cells #[.pointer (some ⟨g, 0, none⟩)] 24)
    have b1 := (((Boxed.new (w.alloc (.cells #[.pointer (some ⟨g, 0, none⟩)] 24)) 3 (.int .i64 (m : Int))).alloc (.cells #[.slice none 0 0] 47)).alloc (.cells #[.bool true] 4)).alloc (.cells #[.pointer (some ⟨g, 0, none⟩)] 24)
    have b2 := ((Boxed.new ((w.alloc (.cells #[.pointer (some ⟨g, 0, none⟩)] 24)).alloc (.cells #[.int .i64 (m : Int)] 3)) 47 (.slice none 0 0)).alloc (.cells #[.bool true] 4)).alloc (.cells #[.pointer (some ⟨g, 0, none⟩)] 24)
    have b3 := (Boxed.new (((w.alloc (.cells #[.pointer (some ⟨g, 0, none⟩)] 24)).alloc (.cells #[.int .i64 (m : Int)] 3)).alloc (.cells #[.slice none 0 0] 47)) 4 (.bool true)).alloc (.cells #[.pointer (some ⟨g, 0, none⟩)] 24)
    have b4 := Boxed.new ((((w.alloc (.cells #[.pointer (some ⟨g, 0, none⟩)] 24)).alloc (.cells #[.int .i64 (m : Int)] 3)).alloc (.cells #[.slice none 0 0] 47)).alloc (.cells #[.bool true] 4)) 24 (.pointer (some ⟨g, 0, none⟩))
    simp only [World.size_alloc] at b1 b2 b3 b4
    exact ⟨⟨_, b2, World.ownsRow_nil _ _ _ _, trivial⟩, b0, b1, b3, b4, (((((Below.refl _ w).alloc (Nat.le_refl _) _).alloc (by simp) _).alloc (by simp; omega) _).alloc (by simp; omega) _).alloc (by simp; omega) _⟩
  have hsz0 : (((((w.alloc (.cells #[.pointer (some ⟨g, 0, none⟩)] 24)).alloc (.cells #[.int .i64 (m : Int)] 3)).alloc (.cells #[.slice none 0 0] 47)).alloc (.cells #[.bool true] 4)).alloc (.cells #[.pointer (some ⟨g, 0, none⟩)] 24)).heap.size = w.heap.size + 5 := by simp
  have hgl := hr.at_.lt
  have hrl := fun i hi => (hr.row.lt i hi).2
  generalize ((((w.alloc (.cells #[.pointer (some ⟨g, 0, none⟩)] 24)).alloc (.cells #[.int .i64 (m : Int)] 3)).alloc (.cells #[.slice none 0 0] 47)).alloc (.cells #[.bool true] 4)).alloc (.cells #[.pointer (some ⟨g, 0, none⟩)] 24) = W0 at *
  refine wpIn_rangeFunc_ownG (a := _) rfl (by omega) (gf := 26) (lb := #[.pointer (some ⟨w.heap.size + 1 + 1 + 1 + 1, 0, none⟩)]) rfl trivial (enters_of Try.func26 (by kernel_rfl) rfl)
    (all_stops _ (by omega) (w.heap.size + 1 + 1 + 1 + 1) w.heap.size g b most lv l hl W0 (by omega) hr0.it.cell (hr.below hr0.below) hgl hrl) kpr_t (kpr_b (by omega) (by omega)) (Below.refl _ _) (fun _ => rfl)
    (fun pre W => LawI w w.heap.size g m (firsts pre) (pre.all (okAt l)) W ∧ pre.length ≤ m)
    (fun c ps W => LawI w w.heap.size g m ((firsts ps).take m) ((ps.take m).all (okAt l)) W ∧ (c = .exit 0 ∧ ps.length = m + 1))
    (OwnFrom.and (lawI_own _ _ (by omega)) (ownFrom_pure _ _)) (fun c => OwnFrom.and (lawI_own _ _ (by omega)) (ownFrom_pure _ _))
    ⟨hr0, Nat.zero_le _⟩
    (fun x => { tmps := #[.pointer (some ⟨g, 0, none⟩), .int .i64 (m : Int), .pointer (some ⟨w.heap.size, 0, none⟩), .pointer (some ⟨w.heap.size + 1, 0, none⟩), .slice none 0 0, .bool false, .pointer (some ⟨w.heap.size + 1 + 1, 0, none⟩), .pointer (some ⟨w.heap.size + 1 + 1 + 1, 0, none⟩), .int .i64 (x.1 : Int), .string x.2, undef, undef, undef, .pointer (some ⟨g, 0, none⟩), .func (.func 26) #[] #[.pointer (some ⟨w.heap.size + 1 + 1 + 1 + 1, 0, none⟩)], .int .i64 (x.1 : Int), .string x.2, undef, undef, undef, undef, undef, undef, undef, undef, undef, undef, undef, undef, undef, undef, undef, undef, undef, undef, undef, undef, undef, undef, undef, undef, undef, undef], defers := [] }) ?assign ?body ?done ?stop
  case assign =>
    intro l x W K hK
    gi_wp2
    exact hK
  case body =>
    rintro lp pre x W ⟨hI, hpm⟩ hlt
    obtain ⟨v, hv, hrow, _⟩ := hI.out
    have hvc := hv.cell
    have hmc := hI.most.cell
    have hrc := hI.roll.cell
    have hfc := hI.fine.cell
    have hff := hI.fine.frozen
    have hpl := firsts_len pre
    have HX := Lib.hid (firsts_snoc pre x)
    obtain ⟨A, cap, rfl, _⟩ := own_form hrow
    by_cases hge : m ≤ (firsts pre).length
    · have hge' : (m : Int) ≤ ((firsts pre).length : Int) := by omega
      have hpe : pre.length = m := by omega
      clear hpl
      gi_wp2
      refine ⟨KeepsFrom.refl _ _, ?_, rfl, by simp; omega⟩
      rw [HX.out, List.take_append_of_le_length hge, List.take_of_length_le (by rw [firsts_len]; omega), List.take_append_of_le_length (by omega), List.take_of_length_le (by omega)]
      exact hI
    · have hge' : ¬ (m : Int) ≤ ((firsts pre).length : Int) := by omega
      have hrW := hr.below hI.below
      have hpl2 : (firsts pre).length < m := by omega
      clear hpl
      generalize hG : getL l (x.1 : Int) = G at *
      obtain ⟨G1, G2, G3⟩ := G
      have HOK : Hid (okAt l x = (G3 && (G2.toList == x.2.toList))) := by unfold Hid okAt; rw [hG]
      have HA : Hid ((pre ++ [x]).all (okAt l) = (pre.all (okAt l) && okAt l x)) := by unfold Hid; rw [List.all_append]; simp
      have hp1 : (pre ++ [x]).length ≤ m := by rw [List.length_append]; have := firsts_len pre; simp; omega
      cases hF : pre.all (okAt l) with
      | false =>
        gi_wp2_with (first | (refine ⟨trivial, ?_⟩; gi_at_call 11; refine (CallsIn.inRound lp (callsIn_wide.2 (get_any g b most (x.1 : Int) _ l _ hrW))).mono ?_; rintro e w9 ⟨rfl, nq, hw2⟩; obtain ⟨w2, rfl⟩ : ∃ w2, w2 = w9 := ⟨_, rfl⟩; have hI2 : LawI w w.heap.size g m (firsts pre) (pre.all (okAt l)) w2 := (by rw [hw2]; exact ⟨hI.out, hI.roll, hI.most, hI.fine, hI.it, drawnN hI.below nq⟩); have hv2 : Boxed w2 (w.heap.size + 1 + 1) 47 _ := (by rw [hw2]; exact hv); have hrow2 : w2.ownsRow (w.heap.size + 5) 3 1 _ _ _ := (by rw [hw2]; exact hrow); have hvc2 := hv2.cell; have hfc2 := hI2.fine.cell; have hff2 := hI2.fine.frozen; have hwk : Kept W w2 (fun _ => False) := (by rw [hw2]; exact Kept.of_below (drawnN (Below.refl _ _) nq)); clear hw2; rw [hF] at hfc2; rw [hG]) | (gi_at_builtin; refine wpListIn_append_own _ rfl _ _ 47 rfl (w.heap.size + 5) 3 i0 (.int .i64 0) 1 8 Try.underlying47 hi hz0 hz1 hz2 rfl (by decide) _ _ _ rfl ((row_fine hrow2 _).alloc _) ⟨_, 0, none⟩ 1 1 [.int .i64 (x.1 : Int)] rfl rfl ?d1 ?d2 ?d3 ?d4 ?d5 ?_))
        case d1 => exact World.news_of_block (cs := #[.int .i64 (x.1 : Int)]) (by have := heap_alloc_new (w2.setCell ⟨w.heap.size + 1 + 1 + 1, 0, none⟩ (.bool (false))) (.cells #[.int .i64 (x.1 : Int)] 3); simpa [World.setCell] using this)
        case d2 => intro u hu; simp at hu; subst hu; rfl
        case d3 => unfold maxLen; omega
        case d4 => omega
        case d5 => have := hI2.it.lt; simp; omega
        intro v4 w4 hrow4 hgrow _
        obtain ⟨g', cap', rfl⟩ := ownsRow_succ hrow4
        have hv4 := ((hv2.other (show w.heap.size + 1 + 1 ≠ w.heap.size + 1 + 1 + 1 by omega) (.bool (false))).alloc (.cells #[.int .i64 (x.1 : Int)] 3)).kept hgrow (fun e => by have := (hrow2.lt _ e.symm).1; omega)
        have hvc4 := hv4.cell
        have hvf4 := hv4.frozen
        obtain ⟨e1, e2, e3⟩ := law_fin (F' := false) (Nat.le_refl _) hI2 hv2 hrow2 hrow4 hgrow
        gi_wp2
        refine ⟨KeepsFrom.from_same (e3 _) hwk, (kpr_same hwk (Nat.le_of_lt hI.roll.lt) hI.it.lt).trans e2, ?_, hp1⟩
        rw [HX.out, HA.out, hF, Bool.false_and]
        exact e1
      | true =>
        cases hO : G3 with
        | false =>
          gi_wp2_with (first | (refine ⟨trivial, ?_⟩; gi_at_call 11; refine (CallsIn.inRound lp (callsIn_wide.2 (get_any g b most (x.1 : Int) _ l _ hrW))).mono ?_; rintro e w9 ⟨rfl, nq, hw2⟩; obtain ⟨w2, rfl⟩ : ∃ w2, w2 = w9 := ⟨_, rfl⟩; have hI2 : LawI w w.heap.size g m (firsts pre) (pre.all (okAt l)) w2 := (by rw [hw2]; exact ⟨hI.out, hI.roll, hI.most, hI.fine, hI.it, drawnN hI.below nq⟩); have hv2 : Boxed w2 (w.heap.size + 1 + 1) 47 _ := (by rw [hw2]; exact hv); have hrow2 : w2.ownsRow (w.heap.size + 5) 3 1 _ _ _ := (by rw [hw2]; exact hrow); have hvc2 := hv2.cell; have hfc2 := hI2.fine.cell; have hff2 := hI2.fine.frozen; have hwk : Kept W w2 (fun _ => False) := (by rw [hw2]; exact Kept.of_below (drawnN (Below.refl _ _) nq)); clear hw2; rw [hF] at hfc2; rw [hG, hO]) | (gi_at_builtin; refine wpListIn_append_own _ rfl _ _ 47 rfl (w.heap.size + 5) 3 i0 (.int .i64 0) 1 8 Try.underlying47 hi hz0 hz1 hz2 rfl (by decide) _ _ _ rfl ((row_fine hrow2 _).alloc _) ⟨_, 0, none⟩ 1 1 [.int .i64 (x.1 : Int)] rfl rfl ?b1 ?b2 ?b3 ?b4 ?b5 ?_))
          case b1 => exact World.news_of_block (cs := #[.int .i64 (x.1 : Int)]) (by have := heap_alloc_new (w2.setCell ⟨w.heap.size + 1 + 1 + 1, 0, none⟩ (.bool (false))) (.cells #[.int .i64 (x.1 : Int)] 3); simpa [World.setCell] using this)
          case b2 => intro u hu; simp at hu; subst hu; rfl
          case b3 => unfold maxLen; omega
          case b4 => omega
          case b5 => have := hI2.it.lt; simp; omega
          intro v4 w4 hrow4 hgrow _
          obtain ⟨g', cap', rfl⟩ := ownsRow_succ hrow4
          have hv4 := ((hv2.other (show w.heap.size + 1 + 1 ≠ w.heap.size + 1 + 1 + 1 by omega) (.bool (false))).alloc (.cells #[.int .i64 (x.1 : Int)] 3)).kept hgrow (fun e => by have := (hrow2.lt _ e.symm).1; omega)
          have hvc4 := hv4.cell
          have hvf4 := hv4.frozen
          obtain ⟨e1, e2, e3⟩ := law_fin (F' := false) (Nat.le_refl _) hI2 hv2 hrow2 hrow4 hgrow
          gi_wp2
          refine ⟨KeepsFrom.from_same (e3 _) hwk, (kpr_same hwk (Nat.le_of_lt hI.roll.lt) hI.it.lt).trans e2, ?_, hp1⟩
          rw [HX.out, HA.out, HOK.out, hO, Bool.false_and, Bool.and_false]
          exact e1
        | true =>
          gi_wp2_with (first | (refine ⟨trivial, ?_⟩; gi_at_call 11; refine (CallsIn.inRound lp (callsIn_wide.2 (get_any g b most (x.1 : Int) _ l _ hrW))).mono ?_; rintro e w9 ⟨rfl, nq, hw2⟩; obtain ⟨w2, rfl⟩ : ∃ w2, w2 = w9 := ⟨_, rfl⟩; have hI2 : LawI w w.heap.size g m (firsts pre) (pre.all (okAt l)) w2 := (by rw [hw2]; exact ⟨hI.out, hI.roll, hI.most, hI.fine, hI.it, drawnN hI.below nq⟩); have hv2 : Boxed w2 (w.heap.size + 1 + 1) 47 _ := (by rw [hw2]; exact hv); have hrow2 : w2.ownsRow (w.heap.size + 5) 3 1 _ _ _ := (by rw [hw2]; exact hrow); have hvc2 := hv2.cell; have hfc2 := hI2.fine.cell; have hff2 := hI2.fine.frozen; have hwk : Kept W w2 (fun _ => False) := (by rw [hw2]; exact Kept.of_below (drawnN (Below.refl _ _) nq)); clear hw2; rw [hF] at hfc2; rw [hG, hO]) | (gi_at_builtin; refine wpListIn_append_own _ rfl _ _ 47 rfl (w.heap.size + 5) 3 i0 (.int .i64 0) 1 8 Try.underlying47 hi hz0 hz1 hz2 rfl (by decide) _ _ _ rfl ((row_fine hrow2 _).alloc _) ⟨_, 0, none⟩ 1 1 [.int .i64 (x.1 : Int)] rfl rfl ?a1 ?a2 ?a3 ?a4 ?a5 ?_))
          case a1 => exact World.news_of_block (cs := #[.int .i64 (x.1 : Int)]) (by have := heap_alloc_new (w2.setCell ⟨w.heap.size + 1 + 1 + 1, 0, none⟩ (.bool (G2.toList == x.2.toList))) (.cells #[.int .i64 (x.1 : Int)] 3); simpa [World.setCell] using this)
          case a2 => intro u hu; simp at hu; subst hu; rfl
          case a3 => unfold maxLen; omega
          case a4 => omega
          case a5 => have := hI2.it.lt; simp; omega
          intro v4 w4 hrow4 hgrow _
          obtain ⟨g', cap', rfl⟩ := ownsRow_succ hrow4
          have hv4 := ((hv2.other (show w.heap.size + 1 + 1 ≠ w.heap.size + 1 + 1 + 1 by omega) (.bool (G2.toList == x.2.toList))).alloc (.cells #[.int .i64 (x.1 : Int)] 3)).kept hgrow (fun e => by have := (hrow2.lt _ e.symm).1; omega)
          have hvc4 := hv4.cell
          have hvf4 := hv4.frozen
          obtain ⟨e1, e2, e3⟩ := law_fin (F' := G2.toList == x.2.toList) (Nat.le_refl _) hI2 hv2 hrow2 hrow4 hgrow
          gi_wp2
          refine ⟨KeepsFrom.from_same (e3 _) hwk, (kpr_same hwk (Nat.le_of_lt hI.roll.lt) hI.it.lt).trans e2, ?_, hp1⟩
          rw [HX.out, HA.out, HOK.out, hF, hO, Bool.true_and, Bool.true_and]
          exact e1
  case done =>
    rintro D ys W hD rfl ⟨hI, hle⟩ hK
    have hok : (items l).all (okAt l) = true := ok_all (fun x hx => hx)
    have htk : firsts (items l) = (slotsOf l).take m := by rw [List.take_of_length_le (by rw [show slotsOf l = firsts (items l) from rfl, firsts_len]; exact hle)]; rfl
    rw [htk] at hI
    obtain ⟨v, hv, hrow, _⟩ := hI.out
    have hvc := hv.cell
    have hfc := hI.fine.cell
    rw [hok] at hfc
    gi_wp2
    refine wpIn_wide.2 ?_
    go_quiet (fail)
    gi_wp2
    have hK' : (W.drewN nq).heap[D]? = some (.deferred (some [])) := hK
    refine ⟨by simp, .inl ⟨_, _, rfl, run_takeDeferred hK', ?_⟩⟩
    have hb2 : Below w.heap.size w (W.drewN nq) := drawnN hI.below nq
    have hrow' : (W.drewN nq).ownsRow (w.heap.size + 5) 3 1 v _ _ := hrow
    refine ⟨_, results_tmp2 rfl _ _ _, v, rfl, ?_, hb2.trans (belowK_b (w := w) (Nat.le_refl _) _ D _ _ (by omega) hK' rfl rfl)⟩
    exact own_base (ownsRow_putObj hrow' _ hK' rfl) (by omega)
  case stop =>
    rintro D c ps W hD hpre ⟨hI, rfl, hle⟩ hK
    have hok : (ps.take m).all (okAt l) = true := ok_all (fun x hx => hpre.subset (List.mem_of_mem_take hx))
    rw [pre_take hpre (by omega)] at hI
    obtain ⟨v, hv, hrow, _⟩ := hI.out
    have hvc := hv.cell
    have hfc := hI.fine.cell
    rw [hok] at hfc
    gi_wp2
    refine wpIn_wide.2 ?_
    go_quiet (fail)
    gi_wp2
    have hK' : (W.drewN nq).heap[D]? = some (.deferred (some [])) := hK
    refine ⟨by simp, .inl ⟨_, _, rfl, run_takeDeferred hK', ?_⟩⟩
    have hb2 : Below w.heap.size w (W.drewN nq) := drawnN hI.below nq
    have hrow' : (W.drewN nq).ownsRow (w.heap.size + 5) 3 1 v _ _ := hrow
    refine ⟨_, results_tmp2 rfl _ _ _, v, rfl, ?_, hb2.trans (belowK_b (w := w) (Nat.le_refl _) _ D _ _ (by omega) hK' rfl rfl)⟩
    exact own_base (ownsRow_putObj hrow' _ hK' rfl) (by omega)

end Go.Proofs.Ytgohdkjnmleblaa
