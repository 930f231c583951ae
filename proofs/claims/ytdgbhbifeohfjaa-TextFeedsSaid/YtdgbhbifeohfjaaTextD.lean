/- Walks of New, Left and Feed of the framer. -/
import Derived.Test.YtdgbhbifeohfjaaTextC
import Derived.Deep.RegionLaw
namespace Go.Proofs.Ytdgbhbifeohfjaa
open Go.RowKit
attribute [local go_sem ↓] Go.wp_at_zero Go.wp_at_succ

theorem Try.info44 : (Try.prog.info? 44).map (fun i => (i.zero, i.size, i.bytes)) = some (some (.agg #[.string ⟨#[]⟩, .int .i64 0]), 2, 24) := by kernel_rfl

def lineCells (l : List UInt8 × Int) : List Value := [.string ⟨l.1.toArray⟩, .int .i64 l.2]
def linesV (ls : List (List UInt8 × Int)) : List Value := ls.flatMap lineCells
theorem linesV_append (a b : List (List UInt8 × Int)) : linesV (a ++ b) = linesV a ++ linesV b := by simp [linesV]

set_option maxHeartbeats 400000 in
theorem new_no (most : Int) (w : World) (h : most < 1 ∨ 4096 < most) : Calls Try.prog 20 #[.int .i64 most] w fun e w' => e = .returned (.tuple #[.pointer none, .int .i64 2]) ∧ w = w' := by
  rcases h with h | h
  all_goals
    go_enter Try.func20, Try.ntmps20
    go_wp2
    go_ret2
    exact ⟨rfl, rfl⟩

set_option maxHeartbeats 400000 in
theorem new_yes (m : Nat) (w : World) (h1 : 1 ≤ m) (h2 : m ≤ 4096) : Calls Try.prog 20 #[.int .i64 (m : Int)] w fun e w' => e = .returned (.tuple #[.pointer (some ⟨w.heap.size, 0, none⟩), .int .i64 0]) ∧ w' = w.alloc (.cells #[.slice none 0 0, .bool false, .int .i64 (m : Int)] 72) := by
  go_enter Try.func20, Try.ntmps20
  go_wp2
  go_ret2
  exact ⟨rfl, rfl⟩
theorem new_fr (m : Nat) (w : World) : FrAt (w.alloc (.cells #[.slice none 0 0, .bool false, .int .i64 (m : Int)] 72)) w.heap.size w.heap.size (.slice none 0 0) m [] :=
  ⟨Whole.new _ _ _, World.ownsRow_nil _ _ _ _⟩

set_option maxHeartbeats 400000 in
theorem left_none (w : World) : Calls Try.prog 24 #[.pointer none] w fun e w' => e = .returned (.int .i64 0) ∧ w = w' := by
  go_enter Try.func24, Try.ntmps24
  go_wp2
  go_ret
  exact ⟨rfl, rfl⟩

set_option maxHeartbeats 400000 in
theorem left_any (base f m : Nat) (bv : Value) (p : List UInt8) (w : World) (hf : FrAt w base f bv m p) : Calls Try.prog 24 #[.pointer (some ⟨f, 0, none⟩)] w fun e w' => e = .returned (.int .i64 ((heldL m p).length : Int)) ∧ w = w' := by
  obtain ⟨hw, hown⟩ := hf
  obtain ⟨A, ca, rfl, hnm, _, _, _⟩ := own_form hown
  have hc0 := hw.cell 0
  simp only [List.getElem?_toArray, List.getElem?_cons_zero] at hc0
  unfold maxLen at hnm
  go_enter Try.func24, Try.ntmps24
  go_wp2
  go_ret
  exact ⟨rfl, rfl⟩

set_option maxHeartbeats 400000 in
theorem feed_none (s : ByteArray) (w : World) : Calls Try.prog 21 #[.pointer none, .string s] w fun e w' => e = .returned (.slice none 0 0) ∧ w = w' := by
  go_enter Try.func21, Try.ntmps21
  go_wp2
  go_ret
  exact ⟨rfl, rfl⟩

theorem take_snoc (s : ByteArray) (k : Nat) (h : k < s.size) : s.data.toList.take (k + 1) = s.data.toList.take k ++ [s[k]] := by
  rw [List.take_succ_eq_append_getElem (by simpa using h)]; rfl

theorem fr_drew {w : World} {base f m : Nat} {bv : Value} {p : List UInt8} (h : FrAt w base f bv m p) : FrAt w.drew base f bv m p := h
theorem fr_drewN {w : World} {base f m : Nat} {bv : Value} {p : List UInt8} (h : FrAt w base f bv m p) (n : Nat) : FrAt (w.drewN n) base f bv m p := h

theorem fr_below {w w' : World} {base f m : Nat} {bv : Value} {p : List UInt8} (h : FrAt w base f bv m p) (hb : Below w.heap.size w w') : FrAt w' base f bv m p := ⟨h.1.below hb h.1.lt, own_below h.2 hb⟩
theorem fr_alloc {w : World} {base f m : Nat} {bv : Value} {p : List UInt8} (h : FrAt w base f bv m p) (o : Obj) : FrAt (w.alloc o) base f bv m p := ⟨h.1.alloc o, h.2.alloc o⟩
theorem fr_kept {w w' : World} {base f m : Nat} {bv : Value} {p : List UInt8} {S : Nat → Prop} (h : FrAt w base f bv m p) (hk : Kept w w' S) (hf : ¬ S f) (hb : ∀ i, bv.ownBlock = some i → ¬ S i) : FrAt w' base f bv m p := ⟨h.1.kept hk hf, hk.own h.2 hb⟩
theorem end_agg (base f m : Nat) (bv : Value) (p : List UInt8) (w : World) (hm : m ≤ 4096) (hf : FrAt w base f bv m p) :
    Calls Try.prog 38 #[.pointer (some ⟨f, 0, none⟩), .int .i64 (m : Int)] w fun e w' => e = .returned (.agg #[.string ⟨(lineOf m p).1.toArray⟩, .int .i64 (lineOf m p).2]) ∧ Below w.heap.size w w' := end_any base f m bv p w hm hf

/-- What Feed leaves. -/
def FeedPost (w : World) (base f : Nat) (bv : Value) (m : Nat) (p s : List UInt8) (e : Ending) (w' : World) : Prop :=
  ∃ v bv', e = .returned v ∧ w'.ownsRow w.heap.size 44 2 v (fd m p s).1.length (linesV (fd m p s).1) ∧ FrAt w' base f bv' m (fd m p s).2 ∧ Kept w w' (fun k => k = f ∨ bv.ownBlock = some k) ∧ NewRow w bv bv'

set_option maxRecDepth 100000 in
set_option maxHeartbeats 2000000 in
theorem feed_any (base f m : Nat) (bv : Value) (p : List UInt8) (s : ByteArray) (w : World) (hm1 : 1 ≤ m) (hm : m ≤ 4096) (hf : FrAt w base f bv m p) (hbase : base ≤ w.heap.size) (hs : s.size ≤ 5000) :
    Calls Try.prog 21 #[.pointer (some ⟨f, 0, none⟩), .string s] w (FeedPost w base f bv m p s.data.toList) := by
  obtain ⟨i0, hi, hz0, hz1, hz2⟩ := info_parts Try.info44
  have hc2 := hf.1.cell 2
  simp only [List.getElem?_toArray, List.getElem?_cons_zero, List.getElem?_cons_succ] at hc2
  have hm0 : ((m : Int) == 0) = false := by rw [beq_eq_false_iff_ne]; omega
  go_enter Try.func21, Try.ntmps21
  go_wp2
  go_loopw [5, 18] (fun out i wr => ∃ (k : Nat) (bv' : Value), k ≤ s.size ∧ i = .int .i64 k ∧ wr.ownsRow w.heap.size 44 2 out (fd m p (s.data.toList.take k)).1.length (linesV (fd m p (s.data.toList.take k)).1) ∧ FrAt wr base f bv' m (fd m p (s.data.toList.take k)).2 ∧ Kept w wr (fun k => k = f ∨ bv.ownBlock = some k) ∧ NewRow w bv bv') (fun _ i _ => s.size - (intOf i).toNat)
  case atStart => exact ⟨0, bv, by omega, rfl, World.ownsRow_nil _ _ _ _, hf, Kept.refl _ _, fun i hi => Or.inl hi⟩
  case round =>
    obtain ⟨k, bv1, hk, rfl, hown, hfr, hkept, hnew⟩ := hrel
    by_cases hlt : k < s.size
    · have HS := Lib.hid (show fd m p (s.data.toList.take (k + 1)) = _ by rw [take_snoc s k hlt, fd_snoc])
      have hlen := fd_length m (s.data.toList.take k) p
      generalize fd m p (s.data.toList.take k) = r at *
      by_cases h10 : s[k] = 10
      · have hd : ((s[k].toNat : Int) != 10) = false := by
          rw [bne_eq_false_iff_eq, h10]; rfl
        have hc := hfr.1.cell 2
        simp only [List.getElem?_toArray, List.getElem?_cons_zero, List.getElem?_cons_succ] at hc
        have g0 : (0 : Int) ≤ (k : Int) := by omega
        have g1 : (k : Int) < (s.size : Int) := by omega
        have hlr : r.1.length ≤ 5000 := by have := hlen.1; rw [List.length_take] at this; omega
        go_wp2
        go_region_law (first | (refine step_append_lies _ (by rfl) _ _ _ (by rfl) w.heap.size 44 i0 (.agg #[.string ⟨#[]⟩, .int .i64 0]) 2 24 Try.underlying36 hi hz0 hz1 hz2 rfl (by omega) u5 r.1.length (linesV r.1) (by rfl) ((own_below (w := wr.drew) hown hb1).alloc _) ⟨w1.heap.size, 0, none⟩ 1 1 (lineCells (lineOf m r.2)) (by rfl) (by rfl) (World.news_of_block (cs := #[.string ⟨(lineOf m r.2).1.toArray⟩, .int .i64 (lineOf m r.2).2]) (heap_alloc_new w1 _)) (by intro u hu; simp [lineCells] at hu; rcases hu with rfl | rfl <;> rfl) (by omega) (by unfold maxLen; omega) (by omega) (by have := hkept.size; have := hb1.size; simp at this ⊢; omega) _ rfl ?_; intro gg cap w4 hown4 hgrow hat hlt4) | (go_simp; go_at_call 38; refine (end_agg base f m bv1 r.2 _ hm (fr_drew hfr)).mono ?_; rintro e w1 ⟨rfl, hb1⟩))
        all_goals
          have hk4 : Kept wr w4 (fun i => u5.ownBlock = some i) := ((Kept.refl wr _).drew).trans (((Kept.of_below hb1).alloc _).grown hgrow (fun i hi _ => hi)) (fun _ _ h => h)
          have hfr4 : FrAt w4 base f bv1 m r.2 := fr_kept (w := wr) hfr hk4 (hfr.1.ne_own hown (by decide)) (fun i hi => own_ne_own hfr.2 hown (by decide) i hi)
          have hw4 := hfr4.1
          have hc40 := hw4.cell 0
          have hc41 := hw4.cell 1
          simp only [List.getElem?_toArray, List.getElem?_cons_zero, List.getElem?_cons_succ] at hc40 hc41
          have hf40 := hw4.frozen 0
          have hf41 := hw4.frozen 1
          have hne4 := hw4.ne_own hown4 (by decide)
          have hkept4 : Kept w w4 (fun k => k = f ∨ bv.ownBlock = some k) := hkept.trans hk4 (fun i hi hx => by have := own_grown_ge hown i hx; omega)
          have hown5 : w4.ownsRow w.heap.size 44 2 (.slice (some ⟨gg, 0, none⟩) (r.1.length + 1) cap) (r.1 ++ [lineOf m r.2]).length (linesV (r.1 ++ [lineOf m r.2])) := by
            rw [linesV_append, List.length_append]
            have e : linesV [lineOf m r.2] = lineCells (lineOf m r.2) := by simp [linesV]
            rw [e]; exact hown4
          clear hown hfr hkept hk4 hgrow hat hown4 hfr4 hc hb1
          go_wp2
          refine ⟨⟨k + 1, .slice none 0 0, by omega, by go_num, ?_, ?_, (hkept4.setCell _ _ (fun _ => Or.inl rfl)).setCell _ _ (fun _ => Or.inl rfl), fun i hi => by simp [Value.ownBlock] at hi⟩, by simp [intOf]; omega⟩
          · rw [HS.out, if_pos h10]
            exact ownsRow_setCell_other (ownsRow_setCell_other hown5 hne4 _) hne4 _
          · rw [HS.out, if_pos h10]
            exact ⟨(hw4.setCell 0 _).setCell 1 _, World.ownsRow_nil _ _ _ _⟩
      · have hd : ((s[k].toNat : Int) != 10) = true := by
          rw [bne_iff_ne]; intro e; exact h10 (UInt8.toNat_inj.1 (by show _ = 10; omega))
        have hc := hfr.1.cell 2
        simp only [List.getElem?_toArray, List.getElem?_cons_zero, List.getElem?_cons_succ] at hc
        have g0 : (0 : Int) ≤ (k : Int) := by omega
        have g1 : (k : Int) < (s.size : Int) := by omega
        go_wp2
        have hbw : base ≤ wr.heap.size := Nat.le_trans hbase hkept.size
        go_region_with (first | (go_at_call 37; refine (add_any base f m bv1 r.2 s[k] _ hm (fr_drew hfr) hbw).mono ?_; rintro e w1 ⟨rfl, bv2, hfr2, hk2, hn2⟩))
        all_goals
          have hown2 := hk2.own (w := wr.drew) hown (fun i hi hx => by
            rcases hx with hx | hx
            · subst hx; exact hfr.1.ne_own hown (by decide) hi
            · exact own_ne_own hown hfr.2 (by decide) i hi hx)
          have hkept2 : Kept w w1 (fun k => k = f ∨ bv.ownBlock = some k) := hkept.drew.trans hk2 (fun i hi hx => by
            rcases hx with hx | hx
            · exact Or.inl hx
            · rcases hnew i hx with h | h
              · exact Or.inr h
              · omega)
          have hnew2 : NewRow w bv bv2 := fun i hi => by
            rcases hn2 i hi with h | h
            · exact hnew i h
            · exact Or.inr (Nat.le_trans hkept.size h)
          clear hown hfr hk2 hn2 hkept hnew hc
          go_wp2
          refine ⟨⟨k + 1, bv2, by omega, by go_num, ?_, ?_, hkept2, hnew2⟩, by simp [intOf]; omega⟩
          · rw [HS.out, if_neg h10]; exact hown2
          · rw [HS.out, if_neg h10]; exact hfr2
    · have ek : k = s.size := by omega
      subst ek
      rw [show s.data.toList.take s.size = s.data.toList from List.take_of_length_le (by simp)] at hown hfr
      go_wp2
      go_ret
      exact ⟨_, bv1, rfl, hown, hfr, hkept, hnew⟩

end Go.Proofs.Ytdgbhbifeohfjaa
