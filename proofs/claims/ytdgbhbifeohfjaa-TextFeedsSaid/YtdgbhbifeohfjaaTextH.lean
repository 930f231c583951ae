/- The walk of the law TextGoes. -/
import Derived.Test.YtdgbhbifeohfjaaTextG
namespace Go.Proofs.Ytdgbhbifeohfjaa
open Go.RowKit
attribute [local go_sem ↓] Go.wp_at_zero Go.wp_at_succ

set_option maxHeartbeats 400000 in
theorem goes_big (most : Int) (bad s : ByteArray) (w : World) (h : 600 < bad.size ∨ 300 < s.size) :
    Calls Try.prog 6 #[.int .u8 most, .string bad, .string s] w fun e w' => e = .returned (.bool true) ∧ Below w.heap.size w w' := by
  by_cases h1 : 600 < bad.size
  · clear h
    go_enter Try.func6, Try.ntmps6
    go_wp2_with (go_at_call 19; refine (works24 _).mono ?_; rintro e w1 ⟨rfl, hb⟩)
    go_ret
    exact ⟨rfl, hb⟩
  · have h2 : 300 < s.size := by omega
    clear h
    go_enter Try.func6, Try.ntmps6
    go_wp2_with (go_at_call 19; refine (works24 _).mono ?_; rintro e w1 ⟨rfl, hb⟩)
    go_ret
    exact ⟨rfl, hb⟩

theorem tail_slice (A : Option Addr) (n c : Nat) (W : World) : (Instr.slice 36 (.slice A (n + 1) c) (some (.int .i64 1)) none none).run Try.prog W = .ok (.slice (if c = 1 then A else A.map (·.add 2)) n (c - 1)) W := by
  have hsz : ∀ W, (sizeOf (Try.prog.elem 36)).run Try.prog W = .ok 2 W := fun _ => by kernel_rfl
  rw [run_slice_l (P := Try.prog) _ _ _ _ _ (by kernel_rfl) _ _ (by omega) (by omega), hsz]
  rfl
theorem rdl_tail {w : World} {A : Option Addr} {l : List UInt8 × Int} {ls : List (List UInt8 × Int)} {c : Nat} (h : RdL w A (l :: ls)) (hc : ls.length + 1 ≤ c) : RdL w (if c = 1 then A else A.map (·.add 2)) ls := fun j hj => by
  obtain ⟨g, o, rfl, hg, hcs⟩ := h 0 (by simp)
  rw [if_neg (by omega)]
  refine ⟨g, o + 2, rfl, hg, fun i hi => ?_⟩
  have := hcs (i + 2) (by simp; omega)
  rw [Nat.add_assoc, Nat.add_comm 2 i, this]
  rfl

/-- A newline within: the law looks no further. -/
def Stops (bad : ByteArray) (k : Nat) : Prop := ∀ j, (hj : j < bad.size) → j < k → bad[j] ≠ 10

set_option maxRecDepth 100000 in
set_option maxHeartbeats 2000000 in
theorem goes_small (m0 m : Nat) (bad s : ByteArray) (w : World) (hm : m0 ≤ 255) (hmm : Hid (m = m0 + 1)) (h1 : bad.size ≤ 600) (h2 : s.size ≤ 300) :
    Calls Try.prog 6 #[.int .u8 (m0 : Int), .string bad, .string s] w fun e w' => e = .returned (.bool true) ∧ Below w.heap.size w w' := by
  have hmle : m ≤ 256 := by have := hmm.out; omega
  have hmge : 1 ≤ m := by have := hmm.out; omega
  have HMI : Hid (((m0 : Int) + 1) = (m : Int)) := by unfold Hid; have := hmm.out; omega
  go_enter Try.func6, Try.ntmps6
  go_wp2
  go_loop [7] (fun i => ∃ k : Nat, k ≤ bad.size ∧ i = .int .i64 k ∧ Hid (Stops bad k)) (fun i => bad.size - (intOf i).toNat)
  case atStart => exact ⟨0, by omega, rfl, fun j _ h => absurd h (by omega)⟩
  case round =>
    obtain ⟨k, hk, rfl, HN⟩ := hrel
    by_cases hlt : k < bad.size
    · by_cases h10 : bad[k] = 10
      · have hd : ((bad[k].toNat : Int) == 10) = true := by rw [h10]; rfl
        clear h10
        go_wp2_with (go_at_call 19; refine (works24 _).mono ?_; rintro e w1 ⟨rfl, hb⟩)
        go_ret
        exact ⟨rfl, hb⟩
      · have hd : ((bad[k].toNat : Int) == 10) = false := by rw [beq_eq_false_iff_ne]; intro e; exact h10 (UInt8.toNat_inj.1 (by show _ = 10; omega))
        have H10 := Lib.hid h10
        clear h10
        go_wp2
        refine ⟨⟨k + 1, by omega, by go_num, fun j hj h => ?_⟩, by simp [intOf]; omega⟩
        by_cases e : j = k
        · subst e; exact H10.out
        · exact HN.out j hj (by omega)
    · have ek : k = bad.size := by omega
      subst ek
      have HB : Hid (fd m [] ((bad ++ ⟨#[10]⟩) ++ s).data.toList = (lineOf m bad.data.toList :: (fd m [] s.data.toList).1, (fd m [] s.data.toList).2)) := by
        unfold Hid
        rw [ByteArray.data_append, Array.toList_append, ByteArray.data_append, Array.toList_append]
        refine fd_bad m _ _ (fun c hc => ?_)
        obtain ⟨j, hj, rfl⟩ := List.getElem_of_mem hc
        have hj' : j < bad.size := by simpa using hj
        exact HN.out j hj' hj'
      have hsz : ((bad ++ ⟨#[10]⟩) ++ s).size ≤ 5000 := by rw [ByteArray.size_append, ByteArray.size_append]; show bad.size + 1 + s.size ≤ 5000; omega
      go_wp2_with fail
      rw [HMI.out]
      refine (new_yes m _ hmge (by omega)).mono ?_; rintro e w' ⟨rfl, rfl⟩
      have hfa := new_fr m w
      have hb1 := (Below.refl w.heap.size w).alloc (Nat.le_refl _) (.cells #[.slice none 0 0, .bool false, .int .i64 (m : Int)] 72)
      have hs1 : w.heap.size < (w.alloc (.cells #[.slice none 0 0, .bool false, .int .i64 (m : Int)] 72)).heap.size := by simp
      generalize w.alloc (.cells #[.slice none 0 0, .bool false, .int .i64 (m : Int)] 72) = w1 at *
      go_wp2_with fail
      refine (new_yes m _ hmge (by omega)).mono ?_; rintro e w' ⟨rfl, rfl⟩
      have hfb := new_fr m w1
      have hfa2 := fr_alloc hfa (.cells #[.slice none 0 0, .bool false, .int .i64 (m : Int)] 72)
      have hb2 := hb1.alloc hb1.size (.cells #[.slice none 0 0, .bool false, .int .i64 (m : Int)] 72)
      have hs2 : w1.heap.size < (w1.alloc (.cells #[.slice none 0 0, .bool false, .int .i64 (m : Int)] 72)).heap.size := by simp
      have hbig2 : w1.heap.size ≤ (w1.alloc (.cells #[.slice none 0 0, .bool false, .int .i64 (m : Int)] 72)).heap.size := by simp
      generalize w1.alloc (.cells #[.slice none 0 0, .bool false, .int .i64 (m : Int)] 72) = w2 at *
      clear hfa hb1
      go_wp2_with fail
      refine (feed_any w.heap.size w.heap.size m (.slice none 0 0) [] _ _ hmge (by omega) hfa2 (by omega) hsz).mono ?_
      rintro e w3 ⟨v1, bva, rfl, hx, hfa3, hk3, _⟩
      rw [HB.out] at hx hfa3
      have hfb3 := fr_kept hfb hk3 (fun hh => hh.elim (fun e => by omega) (fun h => by simp [Value.ownBlock] at h)) (fun i hi => by simp [Value.ownBlock] at hi)
      have hb3 := hb2.trans (hk3.below (B := w.heap.size) (fun i hx => hx.elim (fun e => by omega) (fun h => by simp [Value.ownBlock] at h)) (by omega))
      have hs3 := hk3.size
      clear hfa2 hfb hk3 hb2
      go_wp2_with fail
      refine (feed_any w1.heap.size w1.heap.size m (.slice none 0 0) [] _ _ hmge (by omega) hfb3 (by omega) (by omega)).mono ?_
      rintro e w4 ⟨v2, bvb, rfl, hy, hfb4, hk4, _⟩
      have hx4 := hk4.own hx (fun i hi hh => hh.elim (fun e => by subst e; exact hfb3.1.ne_own hx (by decide) hi) (fun h => by simp [Value.ownBlock] at h))
      have hfa4 := fr_kept hfa3 hk4 (fun hh => hh.elim (fun e => by omega) (fun h => by simp [Value.ownBlock] at h)) (fun i hi hh => hh.elim (fun e => by subst e; exact hfb3.1.ne_own hfa3.2 (by decide) hi) (fun h => by simp [Value.ownBlock] at h))
      have hb4 := hb3.trans (hk4.below (B := w.heap.size) (fun i hx => hx.elim (fun e => by omega) (fun h => by simp [Value.ownBlock] at h)) (by omega))
      clear hfa3 hfb3 hk4 hb3 hx
      simp only [List.length_cons] at hx4
      have hfl := (fd_length m s.data.toList []).1
      generalize fd m [] s.data.toList = r at *
      have hlr : r.1.length ≤ 300 := by simp at hfl; omega
      clear hfl
      obtain ⟨A1, c1, rfl, hm1, hc1, hr1⟩ := rdl_of (ls := lineOf m bad.data.toList :: r.1) rfl hx4
      obtain ⟨A2, c2, rfl, hm2, hc2, hr2⟩ := rdl_of rfl hy
      have hrt := rdl_tail hr1 (by simpa using hc1)
      obtain ⟨g1, o1, rfl, hg1, hcs⟩ := hr1 0 (by simp)
      have hz0 := (hcs 0 (by simp)).trans (linesV_at (lineOf m bad.data.toList :: r.1) 0 (by simp)).1
      have hz1 := (hcs 1 (by simp; omega)).trans (linesV_at (lineOf m bad.data.toList :: r.1) 0 (by simp)).2
      simp only [List.getElem_cons_zero, Nat.add_zero] at hz0 hz1
      clear hcs hr1 hx4 hy
      simp only [List.length_cons] at hm1 hc1
      have hts := tail_slice (some ⟨g1, o1, none⟩) r.1.length c1
      generalize (if c1 = 1 then some (⟨g1, o1, none⟩ : Addr) else (some (⟨g1, o1, none⟩ : Addr)).map (·.add 2)) = B1 at *
      have hbad : bad.size ≤ 100000 := by omega
      have hw1 : IntKind.i64.wrap ((r.1.length : Int) + 1) = (r.1.length : Int) + 1 := IntWalk.i64_in _ (by omega)
      have hpos : (0 : Int) < ((r.1.length + 1 : Nat) : Int) := by omega
      have hcast : ((r.1.length + 1 : Nat) : Int) = (r.1.length : Int) + 1 := by omega
      go_wp2_with fail
      go_region_held3 (fun w' => w'.cell? ⟨g1, o1, none⟩ = some (.string ⟨(lineOf m bad.data.toList).1.toArray⟩) ∧ w'.cell? ⟨g1, o1 + 1, none⟩ = some (.int .i64 (lineOf m bad.data.toList).2))
        (first | go_keep | exact ⟨(hb5.cell (p := ⟨g1, o1, none⟩) hg1).trans hz0, (hb5.cell (p := ⟨g1, o1 + 1, none⟩) hg1).trans hz1⟩)
        (first | (go_at_call 25; refine (rline_any bad m _ (by omega) hbad).mono ?_; rintro e w5 ⟨rfl, hb5⟩))
      all_goals
        have hb5' : Below w4.heap.size w4 w5 := (Below.refl _ w4).drew.trans hb5
        have hrt5 := rdl_below hrt hb5'
        have hr25 := rdl_below hr2 hb5'
        have hfa5 := fr_below hfa4 hb5'
        have hfb5 := fr_below hfb4 hb5'
        have hb6 := below_then hb4 hb5'
        clear hb5 hb5' hrt hr2 hfa4 hfb4 hb4 hz0 hz1
        go_wp2_with fail
        refine (same_rd B1 A2 r.1.length _ _ r.1 _ rfl hm2 hrt5 hr25).mono ?_
        rintro e w6 ⟨rfl, hb7⟩
        have hfa6 := fr_below hfa5 hb7
        have hfb6 := fr_below hfb5 hb7
        have hb8 := below_then hb6 hb7
        have hleft := held_length m r.2
        have hl2 : (heldL m r.2).length ≤ m + 1 := by omega
        clear hleft
        go_wp2_with fail
        refine (left_any _ _ m bva r.2 _ hfa6).mono ?_; rintro e w' ⟨rfl, rfl⟩
        go_wp2_with fail
        refine (left_any _ _ m bvb r.2 _ hfb6).mono ?_; rintro e w' ⟨rfl, rfl⟩
        go_wp2_with fail
        refine (left_any _ _ m bva r.2 _ hfa6).mono ?_; rintro e w' ⟨rfl, rfl⟩
        go_wp2_with fail
        refine (works24 _).mono ?_; rintro e w9 ⟨rfl, hb9⟩
        go_wp2_with fail
        go_ret
        exact ⟨rfl, below_then hb8 hb9⟩

theorem goes_all (m0 : Int) (bad s : ByteArray) (w : World) (h0 : 0 ≤ m0) (h1 : m0 ≤ 255) :
    Calls Try.prog 6 #[.int .u8 m0, .string bad, .string s] w fun e w' => e = .returned (.bool true) ∧ Below w.heap.size w w' := by
  obtain ⟨n, rfl⟩ := Int.eq_ofNat_of_zero_le h0
  by_cases h : 600 < bad.size ∨ 300 < s.size
  · exact goes_big _ bad s w h
  · exact goes_small n (n + 1) bad s w (by omega) rfl (by omega) (by omega)

end Go.Proofs.Ytdgbhbifeohfjaa
