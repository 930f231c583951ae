/- The walk of the law RollPlays. -/
import Derived.Test.YtgohdkjnmleblaaRolI
namespace Go.Proofs.Ytgohdkjnmleblaa
open Go.RowKit
attribute [local go_sem ↓] Go.wp_at_zero Go.wp_at_succ

theorem ref_kept {w0 w1 w2 : World} {g most b n : Nat} {l : List Sl} {v : Value} {xs : List Value} (hr : RollOk w0 w1 g l most) (h : w1.ownsRow b 39 3 v n xs) (hk : Kept w1 w2 (RS w1 g (g + 1))) : w2.ownsRow b 39 3 v n xs := by
  obtain ⟨lv, ha, _⟩ := hr.at_
  refine hk.own h (fun i hi hx => ?_)
  rcases hx with hx | ⟨_, cs, hc⟩
  · subst hx; exact ha.ne_own h (by decide) hi
  · exact Whole.ne_own (t := 61) (cs := cs) hc h (by decide) hi
theorem get_neg (l : List Sl) : getL l (-1) = (0, ⟨#[]⟩, false) := by unfold getL; rw [dif_neg (by omega)]
theorem get_hit {l : List Sl} {k : Nat} (hk : k < l.length) {id : Int} (h : hasId id l[k] = true) : getL l (k : Int) = (id, xOf l[k], true) := by
  unfold hasId at h
  rw [Bool.and_eq_true] at h
  have h2 : idOf l[k] = id := by simpa using h.2
  unfold getL
  rw [dif_pos ⟨by omega, by simpa using hk⟩]
  simp only [Int.toNat_natCast]
  rw [h.1, h2]

set_option maxRecDepth 100000 in
set_option maxHeartbeats 400000 in
theorem plays_many (most : Int) (A : Option Addr) (n cap : Nat) (w : World) (hn : n ≤ maxLen) (h : 80 < n) :
    Calls Try.prog 3 #[.int .i64 most, .slice A n cap] w fun e w' => e = .returned (.bool true) ∧ Below w.heap.size w w' := by
  unfold maxLen at hn
  go_enter Try.func3, Try.ntmps3
  go_wp2_with (go_at_call 6; refine (works37 _).mono ?_; rintro e w1 ⟨rfl, hb⟩)
  go_ret
  exact ⟨rfl, hb⟩

set_option maxRecDepth 100000 in
set_option maxHeartbeats 1000000 in
theorem plays_none (most : Int) (A : Option Addr) (n cap : Nat) (w : World) (h : n ≤ 80) (hm : most < 1 ∨ 4096 < most) :
    Calls Try.prog 3 #[.int .i64 most, .slice A n cap] w fun e w' => e = .returned (.bool true) ∧ Below w.heap.size w w' := by
  rcases hm with hm | hm
  all_goals
    go_enter Try.func3, Try.ntmps3
    go_wp2_with fail
    refine (new_no most _ (by omega)).mono ?_; rintro e w' ⟨rfl, rfl⟩
    go_wp2_with (go_at_call 6; refine (works37 _).mono ?_; rintro e w1 ⟨rfl, hb⟩)
    go_ret
    exact ⟨rfl, hb⟩

set_option maxRecDepth 100000 in
set_option maxHeartbeats 4000000 in
theorem plays_few (most : Nat) (A : Option Addr) (n cap : Nat) (f : Nat → OpT) (w : World) (h : n ≤ 80) (h1 : 1 ≤ most) (h2 : most ≤ 4096) (hin : OpsIn w A n f) :
    Calls Try.prog 3 #[.int .i64 (most : Int), .slice A n cap] w fun e w' => e = .returned (.bool true) ∧ Below w.heap.size w w' := by
  have HIN := Lib.hid hin
  clear hin
  have hm1 : ¬ (most : Int) < 1 := by omega
  have hm2 : ¬ (4096 : Int) < (most : Int) := by omega
  go_enter Try.func3, Try.ntmps3
  go_wp2_with fail
  refine (new_yes most _ h1 h2).mono ?_; rintro e w' ⟨rfl, rfl⟩
  have h0 : RollOk w (w.alloc (.cells #[.slice none 0 0, .int .i64 (most : Int), .int .i64 0] 59)) w.heap.size [] most := roll_new most w
  generalize w.alloc (.cells #[.slice none 0 0, .int .i64 (most : Int), .int .i64 0] 59) = w0 at *
  go_wp2
  go_loopw [7, 8, 9, 10, 11, 12, 13, 14, 15, 16, 17, 18, 19, 20] (fun x i _ _ _ _ _ _ _ _ _ _ _ _ wr => ∃ (k : Nat) (l : List Sl), k ≤ n ∧ i = .int .i64 k ∧ l.length ≤ k ∧ RollOk w wr w.heap.size l most ∧ wr.ownsRow w.heap.size 39 3 x l.length (rfV l)) (fun _ i _ _ _ _ _ _ _ _ _ _ _ _ _ => n - (intOf i).toNat)
  case atStart => exact ⟨0, [], by omega, rfl, by simp, h0, World.ownsRow_nil _ _ _ _⟩
  case round =>
    clear h0
    obtain ⟨k, l, hk, rfl, hlen, hr, hx⟩ := hrel
    by_cases hlt : k < n
    · obtain ⟨gb, o, rfl, had, c1, c2, c3, hkd⟩ := HIN.out k hlt
      have d1 := (hr.below.cell (p := ⟨gb, o + k * 3, none⟩) had).trans c1
      have d2 := (hr.below.cell (p := ⟨gb, o + k * 3 + 1, none⟩) had).trans c2
      have d3 := (hr.below.cell (p := ⟨gb, o + k * 3 + 2, none⟩) had).trans c3
      have g0 : (0 : Int) ≤ (k : Int) := by omega
      have g3 : (k : Int) < (n : Int) := by omega
      clear HIN
      generalize f k = op at *
      obtain ⟨kd, id', x'⟩ := op
      simp only at d1 d2 d3 c1 c2 c3 hkd
      by_cases hev : kd % 4 = 2
      · have hrem : ((kd : Int) % 4 == 2) = true := by rw [beq_iff_eq]; omega
        have hdl := drop_len l id'
        go_wp2_with fail
        refine (rdrop_any w.heap.size l.length id' _ l wr rfl (by omega) (by have := hr.size; omega) hx).mono ?_; rintro e w1 ⟨v2, rfl, hx1, hb1⟩
        obtain ⟨l2, dd, hpe⟩ : ∃ l2 dd, dropL l id' = (l2, dd) := ⟨_, _, rfl⟩
        have HPE := Lib.hid hpe
        rw [hpe] at hdl hx1 ⊢
        clear hpe
        simp only at hdl hx1
        have hr1 := hr.next hb1
        have hdd : (dd != dd) = false := by simp
        clear hr hb1 hx d1 d2 d3
        go_wp2_with fail
        refine (drop_ok hr1 (by omega) HPE.out).mono ?_; rintro e w2 ⟨rfl, hr2, hk2⟩
        have hx2 := ref_kept hr1 hx1 hk2
        clear hr1 hx1 hk2
        go_wp2_with fail
        refine (len_ok hr2).mono ?_; rintro e w' ⟨rfl, rfl⟩
        have hmm : ((many l2 : Int) != (many l2 : Int)) = false := by simp
        go_wp2_with fail
        refine (rmany_any w.heap.size l2.length v2 l2 w2 rfl (by omega) hx2).mono ?_; rintro e w' ⟨rfl, rfl⟩
        go_wp2_with fail
        refine (slots_ok hr2).mono ?_; rintro e w3 ⟨⟨v3, rfl, hv3, hb3⟩, hr3⟩
        have hx3 := own_below hx2 hb3
        clear hr2 hx2 hb3
        go_wp2_with fail
        refine (rslots_any w.heap.size l2.length v2 l2 w3 rfl (by omega) hx3).mono ?_; rintro e w4 ⟨v4, rfl, hv4, hb4⟩
        have hr4 := hr3.next hb4
        have hx4 := own_below hx3 hb4
        have hv34 := own_below hv3 hb4
        clear hr3 hx3 hv3 hb4
        go_wp2_with fail
        refine (sameI _ _ (slotsOf l2).length v3 v4 (slotsOf l2) w4 rfl hv34 hv4).mono ?_; rintro e w5 ⟨rfl, hb5⟩
        have hr5 := hr4.next hb5
        have hx5 := own_below hx4 hb5
        clear hr4 hx4 hv34 hv4 hb5
        go_wp2_with fail
        exact ⟨⟨k + 1, l2, by omega, by go_num, by omega, hr5, hx5⟩, by simp [intOf]; omega⟩
      · have hrem : ((kd : Int) % 4 == 2) = false := by rw [beq_eq_false_iff_ne]; omega
        by_cases hod : kd % 4 = 3
        · have hrem3 : ((kd : Int) % 4 == 3) = true := by rw [beq_iff_eq]; omega
          obtain ⟨A2, ca2, rfl, hma, _, _, _⟩ := own_form hx
          rcases fnd_cases (hasId id') l with ⟨k1, hk1, hf, hp, _⟩ | ⟨hf, _⟩
          · have HG := get_hit hk1 hp
            have q0 : (0 : Int) ≤ (k1 : Int) := by omega
            have q1 : (k1 : Int) < (l.length : Int) := by omega
            have hqq : ((k1 : Int) != (k1 : Int)) = false := by simp
            have hii : (id' != id') = false := by simp
            clear hp
            go_wp2_with fail
            refine (rfind_any w.heap.size l.length id' _ l wr rfl (by omega) hx).mono ?_; rintro e w' ⟨rfl, rfl⟩
            rw [hf]
            go_wp2_with fail
            refine (get_ok (k1 : Int) hr HG).mono ?_; rintro e w1 ⟨rfl, hr1, hb1⟩
            have hx1 := own_below hx hb1
            clear hr hx hb1 d1 d2 d3
            go_wp2_with fail
            refine (slot_ok id' hr1).mono ?_; rintro e w2 ⟨rfl, hr2, hb2⟩
            rw [hf]
            have hx2 := own_below hx1 hb2
            clear hr1 hx1 hb2
            obtain ⟨A3, ca3, hA3, _, _, _, ha3⟩ := own_form hx2
            obtain ⟨rfl, rfl⟩ : A2 = A3 ∧ ca2 = ca3 := by injection hA3 with h1 _ h2; exact ⟨h1, h2⟩
            obtain ⟨g2, rfl, _, _, cc2⟩ := ha3 k1 hk1 (by omega)
            have dx := (cc2 (k1 * 3 + 2) (by omega)).trans (rfV_at l k1 hk1).2.2
            clear cc2 ha3 hA3 HG
            generalize xOf l[k1] = X1 at *
            go_wp2_with fail
            refine (len_ok hr2).mono ?_; rintro e w' ⟨rfl, rfl⟩
            have hmm : ((many l : Int) != (many l : Int)) = false := by simp
            go_wp2_with fail
            refine (rmany_any w.heap.size l.length (.slice (some ⟨g2, 0, none⟩) l.length ca2) l w2 rfl (by omega) hx2).mono ?_; rintro e w' ⟨rfl, rfl⟩
            go_wp2_with fail
            refine (slots_ok hr2).mono ?_; rintro e w3 ⟨⟨v3, rfl, hv3, hb3⟩, hr3⟩
            have hx3 := own_below hx2 hb3
            clear hr2 hx2 hb3
            go_wp2_with fail
            refine (rslots_any w.heap.size l.length (.slice (some ⟨g2, 0, none⟩) l.length ca2) l w3 rfl (by omega) hx3).mono ?_; rintro e w4 ⟨v4, rfl, hv4, hb4⟩
            have hr4 := hr3.next hb4
            have hx4 := own_below hx3 hb4
            have hv34 := own_below hv3 hb4
            clear hr3 hx3 hv3 hb4
            go_wp2_with fail
            refine (sameI _ _ (slotsOf l).length v3 v4 (slotsOf l) w4 rfl hv34 hv4).mono ?_; rintro e w5 ⟨rfl, hb5⟩
            have hr5 := hr4.next hb5
            have hx5 := own_below hx4 hb5
            clear hr4 hx4 hv34 hv4 hb5
            go_wp2_with fail
            exact ⟨⟨k + 1, l, by omega, by go_num, by omega, hr5, hx5⟩, by simp [intOf]; omega⟩
          · have HG := get_neg l
            go_wp2_with fail
            refine (rfind_any w.heap.size l.length id' _ l wr rfl (by omega) hx).mono ?_; rintro e w' ⟨rfl, rfl⟩
            rw [hf]
            go_wp2_with fail
            refine (get_ok (-1) hr HG).mono ?_; rintro e w1 ⟨rfl, hr1, hb1⟩
            have hx1 := own_below hx hb1
            clear hr hx hb1 d1 d2 d3
            go_wp2_with fail
            refine (slot_ok id' hr1).mono ?_; rintro e w2 ⟨rfl, hr2, hb2⟩
            rw [hf]
            have hx2 := own_below hx1 hb2
            clear hr1 hx1 hb2
            go_wp2_with fail
            refine (len_ok hr2).mono ?_; rintro e w' ⟨rfl, rfl⟩
            have hmm : ((many l : Int) != (many l : Int)) = false := by simp
            go_wp2_with fail
            refine (rmany_any w.heap.size l.length (.slice A2 l.length ca2) l w2 rfl (by omega) hx2).mono ?_; rintro e w' ⟨rfl, rfl⟩
            go_wp2_with fail
            refine (slots_ok hr2).mono ?_; rintro e w3 ⟨⟨v3, rfl, hv3, hb3⟩, hr3⟩
            have hx3 := own_below hx2 hb3
            clear hr2 hx2 hb3
            go_wp2_with fail
            refine (rslots_any w.heap.size l.length (.slice A2 l.length ca2) l w3 rfl (by omega) hx3).mono ?_; rintro e w4 ⟨v4, rfl, hv4, hb4⟩
            have hr4 := hr3.next hb4
            have hx4 := own_below hx3 hb4
            have hv34 := own_below hv3 hb4
            clear hr3 hx3 hv3 hb4
            go_wp2_with fail
            refine (sameI _ _ (slotsOf l).length v3 v4 (slotsOf l) w4 rfl hv34 hv4).mono ?_; rintro e w5 ⟨rfl, hb5⟩
            have hr5 := hr4.next hb5
            have hx5 := own_below hx4 hb5
            clear hr4 hx4 hv34 hv4 hb5
            go_wp2_with fail
            exact ⟨⟨k + 1, l, by omega, by go_num, by omega, hr5, hx5⟩, by simp [intOf]; omega⟩
        · have hrem3 : ((kd : Int) % 4 == 3) = false := by rw [beq_eq_false_iff_ne]; omega
          have hpl := put_len l most id' x'
          go_wp2_with fail
          refine (rput_any w.heap.size most l.length id' x' _ l wr rfl (by omega) (by have := hr.size; omega) hx).mono ?_; rintro e w1 ⟨v2, rfl, hx1, hb1⟩
          obtain ⟨l2, kk, cc, hpe⟩ : ∃ l2 kk cc, putL l most id' x' = (l2, kk, cc) := ⟨_, _, _, rfl⟩
          have HPE := Lib.hid hpe
          rw [hpe] at hpl hx1 ⊢
          clear hpe
          simp only at hpl hx1
          have hr1 := hr.next hb1
          have e3 := (hr1.below.cell (p := ⟨gb, o + k * 3 + 2, none⟩) had).trans c3
          have hkk : (kk != kk) = false := by simp
          have hcc : (cc != cc) = false := by simp
          clear hr hb1 hx d1 d2 d3
          go_wp2_with fail
          refine (put_ok hr1 h1 (by omega) HPE.out).mono ?_; rintro e w2 ⟨rfl, hr2, hk2⟩
          have hx2 := ref_kept hr1 hx1 hk2
          clear hr1 hx1 hk2 e3
          go_wp2_with fail
          refine (len_ok hr2).mono ?_; rintro e w' ⟨rfl, rfl⟩
          have hmm : ((many l2 : Int) != (many l2 : Int)) = false := by simp
          go_wp2_with fail
          refine (rmany_any w.heap.size l2.length v2 l2 w2 rfl (by omega) hx2).mono ?_; rintro e w' ⟨rfl, rfl⟩
          go_wp2_with fail
          refine (slots_ok hr2).mono ?_; rintro e w3 ⟨⟨v3, rfl, hv3, hb3⟩, hr3⟩
          have hx3 := own_below hx2 hb3
          clear hr2 hx2 hb3
          go_wp2_with fail
          refine (rslots_any w.heap.size l2.length v2 l2 w3 rfl (by omega) hx3).mono ?_; rintro e w4 ⟨v4, rfl, hv4, hb4⟩
          have hr4 := hr3.next hb4
          have hx4 := own_below hx3 hb4
          have hv34 := own_below hv3 hb4
          clear hr3 hx3 hv3 hb4
          go_wp2_with fail
          refine (sameI _ _ (slotsOf l2).length v3 v4 (slotsOf l2) w4 rfl hv34 hv4).mono ?_; rintro e w5 ⟨rfl, hb5⟩
          have hr5 := hr4.next hb5
          have hx5 := own_below hx4 hb5
          clear hr4 hx4 hv34 hv4 hb5
          go_wp2_with fail
          exact ⟨⟨k + 1, l2, by omega, by go_num, by omega, hr5, hx5⟩, by simp [intOf]; omega⟩
    · go_wp2_with (go_at_call 6; refine (works37 _).mono ?_; rintro e w9 ⟨rfl, hb9⟩)
      go_ret
      exact ⟨rfl, below_then hr.below hb9⟩

theorem plays_all (most : Int) (A : Option Addr) (n cap : Nat) (f : Nat → OpT) (w : World) (hn : n ≤ maxLen) (hin : OpsIn w A n f) :
    Calls Try.prog 3 #[.int .i64 most, .slice A n cap] w fun e w' => e = .returned (.bool true) ∧ Below w.heap.size w w' := by
  by_cases h : 80 < n
  · exact plays_many most A n cap w hn h
  · by_cases hm : most < 1 ∨ 4096 < most
    · exact plays_none most A n cap w (by omega) hm
    · obtain ⟨m, rfl⟩ := Int.eq_ofNat_of_zero_le (show 0 ≤ most by omega)
      exact plays_few m A n cap f w (by omega) (by omega) (by omega) hin

end Go.Proofs.Ytgohdkjnmleblaa
