/- The walk of the law RollOrder. -/
import Derived.Test.YtgohdkjnmleblaaRolF
namespace Go.Proofs.Ytgohdkjnmleblaa
open Go.RowKit
attribute [local go_sem ↓] Go.wp_at_zero Go.wp_at_succ

theorem put_len (l : List Sl) (most : Nat) (id : Int) (y : ByteArray) : (putL l most id y).1.length ≤ l.length + 1 := by
  unfold putL
  split
  · exact Nat.le_succ _
  · split
    · exact Nat.le_succ _
    · split
      · simp
      · simp
theorem drop_len (l : List Sl) (id : Int) : (dropL l id).1.length = l.length := by
  unfold dropL; split <;> simp
theorem rdi_take {w : World} {A : Option Addr} {ks : List Nat} (h : RdI w A ks) (m : Nat) : RdI w A (ks.take m) := fun j hj => by
  have hl := hj
  rw [List.length_take] at hl
  obtain ⟨g, rfl, hg, hc⟩ := h j (by omega)
  refine ⟨g, rfl, hg, fun i hi => ?_⟩
  rw [List.length_take] at hi
  rw [hc i (by omega)]
  unfold idxV
  rw [List.map_take, List.getElem?_take, if_pos (by omega)]
theorem rdi_below {w w' : World} {A : Option Addr} {ks : List Nat} (h : RdI w A ks) (hb : Below w.heap.size w w') : RdI w' A ks := fun j hj => by
  obtain ⟨g, rfl, hg, hc⟩ := h j hj
  exact ⟨g, rfl, Nat.lt_of_lt_of_le hg hb.size, fun i hi => (hb.cell (p := ⟨g, i, none⟩) hg).trans (hc i hi)⟩

set_option maxHeartbeats 400000 in
theorem order_many (m : Int) (A : Option Addr) (n cap : Nat) (w : World) (hn : n ≤ maxLen) (h : 60 < n) :
    Calls Try.prog 5 #[.slice A n cap, .int .u8 m] w fun e w' => e = .returned (.bool true) ∧ Below w.heap.size w w' := by
  unfold maxLen at hn
  go_enter Try.func5, Try.ntmps5
  go_wp2_with (go_at_call 6; refine (works37 _).mono ?_; rintro e w1 ⟨rfl, hb⟩)
  go_ret
  exact ⟨rfl, hb⟩

set_option maxRecDepth 100000 in
set_option maxHeartbeats 4000000 in
theorem order_few (m : Nat) (A : Option Addr) (n cap : Nat) (f : Nat → OpT) (w : World) (h : n ≤ 60) (hm : m < 256) (hin : OpsIn w A n f) :
    Calls Try.prog 5 #[.slice A n cap, .int .u8 (m : Int)] w fun e w' => e = .returned (.bool true) ∧ Below w.heap.size w w' := by
  have HIN := Lib.hid hin
  clear hin
  go_enter Try.func5, Try.ntmps5
  go_wp2_with fail
  refine (new_yes 100 _ (by omega) (by omega)).mono ?_; rintro e w' ⟨rfl, rfl⟩
  have h0 : RollOk w (w.alloc (.cells #[.slice none 0 0, .int .i64 100, .int .i64 0] 59)) w.heap.size [] 100 := roll_new 100 w
  generalize w.alloc (.cells #[.slice none 0 0, .int .i64 ((100 : Nat) : Int), .int .i64 0] 59) = w0 at *
  go_wp2
  go_loopw [7] (fun i wr => ∃ (k : Nat) (l : List Sl), k ≤ n ∧ i = .int .i64 k ∧ l.length ≤ k ∧ RollOk w wr w.heap.size l 100) (fun i _ => n - (intOf i).toNat)
  case atStart => exact ⟨0, [], by omega, rfl, by simp, h0⟩
  case round =>
    clear h0
    obtain ⟨k, l, hk, rfl, hlen, hr⟩ := hrel
    by_cases hlt : k < n
    · obtain ⟨gb, o, rfl, had, c1, c2, c3, hkd⟩ := HIN.out k hlt
      have d1 := (hr.below.cell (p := ⟨gb, o + k * 3, none⟩) had).trans c1
      have d2 := (hr.below.cell (p := ⟨gb, o + k * 3 + 1, none⟩) had).trans c2
      have d3 := (hr.below.cell (p := ⟨gb, o + k * 3 + 2, none⟩) had).trans c3
      have g0 : (0 : Int) ≤ (k : Int) := by omega
      have g3 : (k : Int) < (n : Int) := by omega
      clear HIN
      generalize f k = op at *
      obtain ⟨kd, id', x⟩ := op
      simp only at d1 d2 d3 c1 c2 c3 hkd
      by_cases hev : kd % 3 = 2
      · have hrem : ((kd : Int) % 3 == 2) = true := by rw [beq_iff_eq]; omega
        have hdl := drop_len l id'
        obtain ⟨l2, dd, hpe⟩ : ∃ l2 dd, dropL l id' = (l2, dd) := ⟨_, _, rfl⟩
        rw [hpe] at hdl
        have HPE := Lib.hid hpe
        simp only at hdl
        clear hpe
        go_wp2_with fail
        refine (drop_ok hr (by omega) HPE.out).mono ?_; rintro e w2 ⟨rfl, hr2, _⟩
        clear hr d1 d2 d3
        go_wp2
        exact ⟨⟨k + 1, l2, by omega, by go_num, by omega, hr2⟩, by simp [intOf]; omega⟩
      · have hrem : ((kd : Int) % 3 == 2) = false := by rw [beq_eq_false_iff_ne]; omega
        have hpl := put_len l 100 id' x
        obtain ⟨l2, k2, cc, hpe⟩ : ∃ l2 k2 cc, putL l 100 id' x = (l2, k2, cc) := ⟨_, _, _, rfl⟩
        rw [hpe] at hpl
        have HPE := Lib.hid hpe
        simp only at hpl
        clear hpe
        have hrd : RollOk w wr.drew w.heap.size l 100 := hr.next (drawnN (Below.refl _ _) 1)
        clear hr
        go_wp2_with fail
        go_region_held3 (fun X => X.cell? ⟨gb, o + k * 3 + 1, none⟩ = some (.int .i64 id') ∧ X.cell? ⟨gb, o + k * 3 + 2, none⟩ = some (.string x)) (first | exact ⟨d2, d3⟩ | exact ⟨(hr2.below.cell (p := ⟨gb, o + k * 3 + 1, none⟩) had).trans c2, (hr2.below.cell (p := ⟨gb, o + k * 3 + 2, none⟩) had).trans c3⟩) (first | (go_at_call 14; refine (put_ok hrd (by omega) (by omega) HPE.out).mono ?_; rintro e w2 ⟨rfl, hr2, _⟩))
        clear hrd d1 d2 d3
        go_wp2
        exact ⟨⟨k + 1, l2, by omega, by go_num, by omega, hr2⟩, by simp [intOf]; omega⟩
    · clear HIN
      go_wp2_with fail
      refine (slots_ok hr).mono ?_; rintro e w1 ⟨⟨v1, rfl, hv1, _⟩, hr1⟩
      clear hr
      obtain ⟨lv, ha⟩ := hr1.at_
      go_wp2_with fail
      refine (lawSlots_any w.heap.size (w.heap.size + 1) 100 m lv l w1 ha hr1.len (by omega)).mono ?_
      rintro e w2 ⟨v2, rfl, hv2, hb2⟩
      have hv1' := own_below hv1 hb2
      have hb3 := below_then hr1.below hb2
      have hsl : (slotsOf l).length ≤ 60 := by unfold slotsOf; rw [List.length_map, items_len]; have := many_le l; omega
      generalize slotsOf l = ks at *
      obtain ⟨A1, ca1, rfl, hm1, hc1, hr1'⟩ := rdi_of rfl hv1'
      obtain ⟨A2, ca2, rfl, hm2, hc2, hr2'⟩ := rdi_of rfl hv2
      have hrt := rdi_take hr1' m
      clear hr1 ha hv1 hv2 hb2 hv1' hr1'
      have hsz : ∀ W, (sizeOf (Try.prog.elem 47)).run Try.prog W = .ok 1 W := fun _ => by kernel_rfl
      by_cases hmm : m ≤ ks.length
      · have hle : (m : Int) ≤ (ks.length : Int) := by omega
        have htl : (ks.take m).length = m := by rw [List.length_take]; omega
        go_wp2_with fail
        refine (sameI_rd A2 A1 _ ca2 ca1 (ks.take m) w2 htl (by rw [← htl]; exact hm2) hr2' hrt).mono ?_
        rintro e w3 ⟨rfl, hb4⟩
        go_wp2_with fail
        refine (works37 _).mono ?_; rintro e w4 ⟨rfl, hb5⟩
        go_wp2_with fail
        go_ret
        exact ⟨rfl, below_then (below_then hb3 hb4) hb5⟩
      · have hle : (ks.length : Int) ≤ (m : Int) := by omega
        have htl : (ks.take m).length = ks.length := by rw [List.length_take]; omega
        go_wp2_with fail
        refine (sameI_rd A2 A1 _ ca2 ca1 (ks.take m) w2 htl (by rw [← htl]; exact hm2) hr2' hrt).mono ?_
        rintro e w3 ⟨rfl, hb4⟩
        go_wp2_with fail
        refine (works37 _).mono ?_; rintro e w4 ⟨rfl, hb5⟩
        go_wp2_with fail
        go_ret
        exact ⟨rfl, below_then (below_then hb3 hb4) hb5⟩

theorem order_all (m : Int) (A : Option Addr) (n cap : Nat) (f : Nat → OpT) (w : World) (hw : (Lit.int .u8 m).wf = true) (hn : n ≤ maxLen) (hin : OpsIn w A n f) :
    Calls Try.prog 5 #[.slice A n cap, .int .u8 m] w fun e w' => e = .returned (.bool true) ∧ Below w.heap.size w w' := by
  by_cases h : 60 < n
  · exact order_many m A n cap w hn h
  · have e1 : IntKind.u8.min = 0 := rfl
    have e2 : IntKind.u8.max = 255 := rfl
    have hw2 : 0 ≤ m ∧ m ≤ 255 := by simpa [Lit.wf, e1, e2] using hw
    obtain ⟨k, rfl⟩ := Int.eq_ofNat_of_zero_le hw2.1
    exact order_few k A n cap f w (by omega) (by omega) hin

end Go.Proofs.Ytgohdkjnmleblaa
