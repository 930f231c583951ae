/- The reference's rolls: the walks of Drop and Put. -/
import Derived.Test.YtgohdkjnmleblaaRolH
import Derived.RangeFuncBox
namespace Go.Proofs.Ytgohdkjnmleblaa
open Go.RowKit
attribute [local go_sem ↓] Go.wp_at_zero Go.wp_at_succ

def RDropPost (b : Nat) (id : Int) (l : List Sl) (w : World) (e : Ending) (w' : World) : Prop :=
  ∃ v, e = .returned (.tuple #[v, .bool (dropL l id).2]) ∧ w'.ownsRow b 39 3 v (dropL l id).1.length (rfV (dropL l id).1) ∧ Below w.heap.size w w'
theorem rpush {w2 : World} {b : Nat} {v' : Value} {J : List Sl} {s : Sl} (h : w2.ownsRow b 39 3 v' (J.length + 1) (rfV J ++ rfC s)) : w2.ownsRow b 39 3 v' (J ++ [s]).length (rfV (J ++ [s])) := by
  rw [List.length_append, rfV_append, rfV_one]; exact h

set_option maxRecDepth 100000 in
set_option maxHeartbeats 2000000 in
theorem rdrop_any (b n : Nat) (id : Int) (v : Value) (l : List Sl) (w : World) (hn : l.length = n) (hl : n ≤ 50000) (hbw : b ≤ w.heap.size) (h : w.ownsRow b 39 3 v n (rfV l)) :
    Calls Try.prog 8 #[v, .int .i64 id] w (RDropPost b id l w) := by
  subst hn
  obtain ⟨i0, hi, hz0, hz1, hz2⟩ := info_parts Try.info39
  have HF : Hid (fnd (hasId id) l = fnd (hasId id) l) := rfl
  have hcs := fnd_cases (hasId id) l
  obtain ⟨F, hF⟩ : ∃ F, fnd (hasId id) l = F := ⟨_, rfl⟩
  have hge : -1 ≤ F := by rw [← hF]; rcases hcs with ⟨k, _, h1, _⟩ | ⟨h1, _⟩ <;> omega
  have HD : Hid (dropL l id = if 0 ≤ F then (l.set F.toNat none, true) else (l, false)) := by unfold Hid dropL; rw [hF]
  have HK : Hid (∀ k, (hk : k < l.length) → (dropL l id).1.take (k + 1) = (dropL l id).1.take k ++ [if (k : Int) = F then none else l[k]]) := by
    intro k hk
    have hd := HD.out
    have hk2 : k < (dropL l id).1.length := by rw [drop_len]; exact hk
    rw [List.take_succ_eq_append_getElem hk2]
    congr 2
    by_cases h0 : 0 ≤ F
    · rw [if_pos h0] at hd
      simp only [hd, List.getElem_set]
      by_cases e : (k : Int) = F
      · rw [if_pos e, if_pos (by omega)]
      · rw [if_neg e, if_neg (by omega)]
    · rw [if_neg h0] at hd
      simp only [hd]
      rw [if_neg (by omega)]
  have HL := Lib.hid (drop_len l id)
  have HB : Hid ((dropL l id).2 = decide (0 ≤ F)) := by
    unfold Hid
    have hd := HD.out
    by_cases h0 : 0 ≤ F
    · rw [if_pos h0] at hd; rw [hd]; simp [h0]
    · rw [if_neg h0] at hd; rw [hd]; simp [h0]
  clear hcs HF
  go_enter Try.func8, Try.ntmps8
  go_wp2_with fail
  refine (rfind_any b l.length id v l w rfl hl h).mono ?_; rintro e w' ⟨rfl, rfl⟩
  rw [hF]
  clear hF HD
  obtain ⟨A, ca, rfl, hm, _, _, ha⟩ := own_form h
  have HA := Lib.hid ha
  clear ha h
  go_wp2
  go_loopw [7, 8] (fun out i wr => ∃ k : Nat, k ≤ l.length ∧ i = .int .i64 k ∧ wr.ownsRow w.heap.size 39 3 out ((dropL l id).1.take k).length (rfV ((dropL l id).1.take k)) ∧ Below w.heap.size w wr) (fun _ i _ => l.length - (intOf i).toNat)
  case atStart => exact ⟨0, by omega, rfl, World.ownsRow_nil _ _ _ _, Below.refl _ _⟩
  case round =>
    obtain ⟨k, hk, rfl, hown, hb⟩ := hrel
    by_cases hlt : k < l.length
    · have HS := Lib.hid (HK.out k hlt)
      have hjl : ((dropL l id).1.take k).length ≤ 50000 := by rw [List.length_take]; omega
      generalize (dropL l id).1.take k = J at *
      have g0 : (0 : Int) ≤ (k : Int) := by omega
      have g3 : (k : Int) < (l.length : Int) := by omega
      by_cases hkF : (k : Int) = F
      · have hq : ((k : Int) == F) = true := by simpa using hkF
        rw [if_pos hkF] at HS
        subst hkF
        go_wp2_with (at_builtin; refine wpList_append_own _ rfl _ _ 28 rfl w.heap.size 39 i0 (.agg #[.bool false, .int .i64 0, .string ⟨#[]⟩]) 3 32 Try.underlying28 hi hz0 hz1 hz2 rfl (by decide) _ _ _ rfl (hown.alloc _) ⟨_, 0, none⟩ 1 1 (rfC none) rfl rfl ?a1 (rfC_one _) ?a3 ?a4 ?a5 ?_)
        case a1 => exact World.news_of_block (cs := #[.bool false, .int .i64 0, .string ⟨#[]⟩]) (heap_alloc_new wr _)
        case a3 => unfold maxLen; omega
        case a4 => omega
        case a5 => have := hb.size; simp; omega
        intro v2 w2 hown2 hgrow2 _
        have hb2 : Below w.heap.size w w2 := (hb.alloc hb.size _).grown hgrow2 (by have := hb.size; simp; omega) (own_grown_ge hown)
        have hown3 := rpush hown2
        clear hown hown2 hgrow2 hb
        go_wp2
        exact ⟨⟨k + 1, by omega, by go_num, by rw [HS.out]; exact hown3, hb2⟩, by simp [intOf]; omega⟩
      · have hq : ((k : Int) == F) = false := by simpa using hkF
        rw [if_neg hkF] at HS
        clear hkF
        obtain ⟨g1, rfl, _, hg1, c1⟩ := HA.out k hlt (by omega)
        obtain ⟨l1, l2, l3⟩ := rfV_at l k hlt
        have d1 := ((hb.cell (p := ⟨g1, k * 3, none⟩) hg1).trans (c1 (k * 3) (by omega))).trans l1
        have d2 := ((hb.cell (p := ⟨g1, k * 3 + 1, none⟩) hg1).trans (c1 (k * 3 + 1) (by omega))).trans l2
        have d3 := ((hb.cell (p := ⟨g1, k * 3 + 2, none⟩) hg1).trans (c1 (k * 3 + 2) (by omega))).trans l3
        clear c1 l1 l2 l3
        generalize l[k] = s at *
        go_wp2_with (at_builtin; refine wpList_append_own _ rfl _ _ 28 rfl w.heap.size 39 i0 (.agg #[.bool false, .int .i64 0, .string ⟨#[]⟩]) 3 32 Try.underlying28 hi hz0 hz1 hz2 rfl (by decide) _ _ _ rfl (hown.alloc _) ⟨_, 0, none⟩ 1 1 (rfC s) rfl rfl ?c1 (rfC_one _) ?c3 ?c4 ?c5 ?_)
        case c1 => exact World.news_of_block (cs := #[.bool s.isSome, .int .i64 (idOf s), .string (xOf s)]) (heap_alloc_new wr _)
        case c3 => unfold maxLen; omega
        case c4 => omega
        case c5 => have := hb.size; simp; omega
        intro v2 w2 hown2 hgrow2 _
        have hb2 : Below w.heap.size w w2 := (hb.alloc hb.size _).grown hgrow2 (by have := hb.size; simp; omega) (own_grown_ge hown)
        have hown3 := rpush hown2
        clear hown hown2 hgrow2 hb
        go_wp2
        exact ⟨⟨k + 1, by omega, by go_num, by rw [HS.out]; exact hown3, hb2⟩, by simp [intOf]; omega⟩
    · have ek : k = l.length := by omega
      subst ek
      rw [List.take_of_length_le (by rw [HL.out]; exact Nat.le_refl _)] at hown
      go_wp2
      go_ret2
      exact ⟨_, by rw [HB.out]; rfl, own_base hown hbw, hb⟩

def RPutPost (b most : Nat) (id : Int) (x : ByteArray) (l : List Sl) (w : World) (e : Ending) (w' : World) : Prop :=
  ∃ v, e = .returned (.tuple #[v, .int .i64 (putL l most id x).2.1, .int .i64 (putL l most id x).2.2]) ∧ w'.ownsRow b 39 3 v (putL l most id x).1.length (rfV (putL l most id x).1) ∧ Below w.heap.size w w'

set_option maxRecDepth 100000 in
set_option maxHeartbeats 4000000 in
theorem rput_any (b most n : Nat) (id : Int) (x : ByteArray) (v : Value) (l : List Sl) (w : World) (hn : l.length = n) (hl : n ≤ 50000) (hbw : b ≤ w.heap.size) (h : w.ownsRow b 39 3 v n (rfV l)) :
    Calls Try.prog 13 #[v, .int .i64 (most : Int), .int .i64 id, .string x] w (RPutPost b most id x l w) := by
  subst hn
  obtain ⟨i0, hi, hz0, hz1, hz2⟩ := info_parts Try.info39
  by_cases hf : 0 ≤ fnd (hasId id) l
  · have HD : Hid (putL l most id x = (l, -1, 8)) := by unfold Hid putL; rw [if_pos hf]
    go_enter Try.func13, Try.ntmps13
    go_wp2_with fail
    refine (rfind_any b l.length id v l w rfl hl h).mono ?_; rintro e w' ⟨rfl, rfl⟩
    generalize fnd (hasId id) l = F at *
    go_wp2
    go_ret3
    exact ⟨v, by rw [HD.out]; rfl, by rw [HD.out]; exact h, Below.refl _ _⟩
  · by_cases hfull : most ≤ many l
    · have HD : Hid (putL l most id x = (l, -1, 6)) := by unfold Hid putL; rw [if_neg hf, if_pos hfull]
      have hfi : (most : Int) ≤ (many l : Int) := by omega
      go_enter Try.func13, Try.ntmps13
      go_wp2_with fail
      refine (rfind_any b l.length id v l w rfl hl h).mono ?_; rintro e w' ⟨rfl, rfl⟩
      generalize fnd (hasId id) l = F at *
      go_wp2_with fail
      refine (rmany_any b l.length v l w rfl hl h).mono ?_; rintro e w' ⟨rfl, rfl⟩
      go_wp2
      go_ret3
      exact ⟨v, by rw [HD.out]; rfl, by rw [HD.out]; exact h, Below.refl _ _⟩
    · have hfi : ¬ (most : Int) ≤ (many l : Int) := by omega
      have HD : Hid (putL l most id x = if 0 ≤ fnd free l then (l.set (fnd free l).toNat (some (id, x)), fnd free l, 0) else (l ++ [some (id, x)], (l.length : Int), 0)) := by unfold Hid putL; rw [if_neg hf, if_neg hfull]
      have hsz : ∀ W, (sizeOf (Try.prog.elem 28)).run Try.prog W = .ok 3 W := fun _ => by kernel_rfl
      go_enter Try.func13, Try.ntmps13
      go_wp2_with fail
      refine (rfind_any b l.length id v l w rfl hl h).mono ?_; rintro e w' ⟨rfl, rfl⟩
      generalize fnd (hasId id) l = F at *
      go_wp2_with fail
      refine (rmany_any b l.length v l w rfl hl h).mono ?_; rintro e w' ⟨rfl, rfl⟩
      generalize hmy : many l = MM at *
      clear hmy
      have hrow := h
      obtain ⟨A, ca, rfl, hm, hca, _, ha⟩ := own_form h
      have HA := Lib.hid ha
      clear ha h
      go_wp2
      go_loop [11] (fun i => ∃ k : Nat, k ≤ l.length ∧ i = .int .i64 k ∧ Hid (∀ j (hj : j < k) (hl : j < l.length), free l[j] = false)) (fun i => l.length - (intOf i).toNat)
      case atStart => exact ⟨0, by omega, rfl, fun j hj => absurd hj (by omega)⟩
      case round =>
        obtain ⟨k, hk, rfl, HN⟩ := hrel
        by_cases hlt : k < l.length
        · obtain ⟨g1, rfl, _, hg1, c1⟩ := HA.out k hlt (by omega)
          obtain ⟨l1, _, _⟩ := rfV_at l k hlt
          have d1 := (c1 (k * 3) (by omega)).trans l1
          have g0 : (0 : Int) ≤ (k : Int) := by omega
          have g3 : (k : Int) < (l.length : Int) := by omega
          clear l1
          cases hs : l[k].isSome with
          | true =>
            rw [hs] at d1
            have HM : Hid (∀ j (hj : j < k + 1) (hl : j < l.length), free l[j] = false) := fun j hj hl => by
              by_cases e : j = k
              · subst e; unfold free; rw [hs]; rfl
              · exact HN.out j (by omega) hl
            clear c1
            go_wp2
            exact ⟨⟨k + 1, by omega, by go_num, HM⟩, by simp [intOf]; omega⟩
          | false =>
            rw [hs] at d1
            have hfk : fnd free l = (k : Int) := fnd_hit hlt (by unfold free; rw [hs]; rfl) (fun j hj => HN.out j hj (by omega))
            rw [hfk, if_pos (by omega)] at HD
            have HD2 : Hid (putL l most id x = (l.take k ++ [some (id, x)] ++ l.drop (k + 1), (k : Int), 0)) := by unfold Hid; rw [HD.out, ← set_at l k hlt]; rfl
            have hrow2 := hrow
            clear HD HA HN hs hfk c1
            have hfront : w.ownsRow b 39 3 (.slice (some ⟨g1, 0, none⟩) k ca) k (rfV (l.take k)) := by have := own_take hrow (show k ≤ l.length by omega); rwa [rfV_take] at this
            go_wp2_with (at_builtin; refine wpList_append_rows rfl _ _ 28 rfl w.heap.size 39 i0 (.agg #[.bool false, .int .i64 0, .string ⟨#[]⟩]) 3 32 Try.underlying28 hi hz0 hz1 hz2 rfl (by decide) _ 0 [] rfl (World.ownsRow_nil _ _ _ _) b _ k (rfV (l.take k)) rfl hfront (rfV_cells _) (by unfold maxLen; omega) (by omega) (Nat.le_refl _) ?_)
            intro v1 w1 ho1 hgrow1
            replace ho1 : w1.ownsRow w.heap.size 39 3 v1 k (rfV (l.take k)) := by simpa using ho1
            have hb1 : Below w.heap.size w w1 := (Below.refl _ w).grown hgrow1 (Nat.le_refl _) (fun i hi => by simp [Value.ownBlock] at hi)
            clear hgrow1 hfront
            go_wp2_with (at_builtin; refine wpList_append_own _ rfl _ _ 28 rfl w.heap.size 39 i0 (.agg #[.bool false, .int .i64 0, .string ⟨#[]⟩]) 3 32 Try.underlying28 hi hz0 hz1 hz2 rfl (by decide) _ _ _ rfl (ho1.alloc _) ⟨_, 0, none⟩ 1 1 (rfC (some (id, x))) rfl rfl ?a1 (rfC_one _) ?a3 ?a4 ?a5 ?_)
            case a1 => exact World.news_of_block (cs := #[.bool true, .int .i64 id, .string x]) (heap_alloc_new w1 _)
            case a3 => unfold maxLen; omega
            case a4 => omega
            case a5 => have := hb1.size; simp; omega
            intro v2 w2 ho2 hgrow2 _
            have hb2 : Below w.heap.size w w2 := (hb1.alloc hb1.size _).grown hgrow2 (by have := hb1.size; simp; omega) (own_grown_ge ho1)
            have hlt3 : (l.take k).length = k := by rw [List.length_take]; omega
            have ho3 := rpush (J := l.take k) (s := some (id, x)) (by rw [hlt3]; exact ho2)
            clear ho1 ho2 hgrow2 hb1
            have hl4 : (l.take k ++ [some (id, x)]).length = k + 1 := by simp; omega
            by_cases hcc : ca = k + 1
            · have hdr : l.drop (k + 1) = [] := List.drop_of_length_le (by omega)
              have HDR := Lib.hid hdr
              have hm0 : l.length - (k + 1) = 0 := by omega
              clear hdr hm0
              go_wp2_with (at_builtin; refine wpList_append_own _ rfl _ _ 28 rfl w.heap.size 39 i0 (.agg #[.bool false, .int .i64 0, .string ⟨#[]⟩]) 3 32 Try.underlying28 hi hz0 hz1 hz2 rfl (by decide) _ _ _ rfl ho3 ⟨g1, 0, none⟩ (l.length - (k + 1)) _ [] rfl ?p0 ?p1 (fun u hu => by cases hu) ?p3 ?p4 ?p5 ?_)
              case p0 => have := congrArg List.length HDR.out; rw [List.length_drop] at this; simp at this; simp; omega
              case p1 => intro j u hj; cases hj
              case p3 => rw [hl4]; unfold maxLen; omega
              case p4 => rw [hl4]; omega
              case p5 => exact hb2.size
              intro v3 w3 ho4 hgrow3 _
              have hb3 : Below w.heap.size w w3 := hb2.grown hgrow3 hb2.size (own_grown_ge ho3)
              have ho5 : w3.ownsRow w.heap.size 39 3 v3 (l.take k ++ [some (id, x)] ++ l.drop (k + 1)).length (rfV (l.take k ++ [some (id, x)] ++ l.drop (k + 1))) := by
                rw [List.length_append, hl4, List.length_drop, rfV_append, HDR.out]
                simpa [rfV] using ho4
              clear ho3 ho4 hgrow3 hb2
              go_wp2
              go_ret3
              exact ⟨_, by rw [HD2.out]; rfl, by rw [HD2.out]; exact own_base ho5 hbw, hb3⟩
            · have hnews : ∀ j u, (rfV (l.drop (k + 1)))[j]? = some u → w2.cell? ((⟨g1, (k + 1) * 3, none⟩ : Addr).add j) = some u := by
                intro j u hu
                have hj : j < (rfV (l.drop (k + 1))).length := by
                  rcases Nat.lt_or_ge j (rfV (l.drop (k + 1))).length with h | h
                  · exact h
                  · rw [List.getElem?_eq_none h] at hu; cases hu
                rw [rfV_length, List.length_drop] at hj
                rw [add_plain, hb2.cell (p := ⟨g1, (k + 1) * 3 + j, none⟩) hg1, hrow2.cellAt ((k + 1) * 3 + j) (by omega), ← List.getElem?_drop, rfV_drop l (k + 1) hlt]
                exact hu
              have HNW := Lib.hid hnews
              clear hnews
              go_wp2_with (at_builtin; refine wpList_append_own _ rfl _ _ 28 rfl w.heap.size 39 i0 (.agg #[.bool false, .int .i64 0, .string ⟨#[]⟩]) 3 32 Try.underlying28 hi hz0 hz1 hz2 rfl (by decide) _ _ _ rfl ho3 ⟨g1, (k + 1) * 3, none⟩ (l.length - (k + 1)) _ (rfV (l.drop (k + 1))) rfl ?q0 ?q1 (rfV_cells _) ?q3 ?q4 ?q5 ?_)
              case q0 => rw [rfV_length, List.length_drop]
              case q1 => exact HNW.out
              case q3 => rw [hl4]; unfold maxLen; omega
              case q4 => rw [hl4]; omega
              case q5 => exact hb2.size
              intro v3 w3 ho4 hgrow3 _
              have hb3 : Below w.heap.size w w3 := hb2.grown hgrow3 hb2.size (own_grown_ge ho3)
              have ho5 : w3.ownsRow w.heap.size 39 3 v3 (l.take k ++ [some (id, x)] ++ l.drop (k + 1)).length (rfV (l.take k ++ [some (id, x)] ++ l.drop (k + 1))) := by
                rw [List.length_append, hl4, List.length_drop, rfV_append]
                exact ho4
              clear ho3 ho4 hgrow3 hb2
              go_wp2
              go_ret3
              exact ⟨_, by rw [HD2.out]; rfl, by rw [HD2.out]; exact own_base ho5 hbw, hb3⟩
        · have ek : k = l.length := by omega
          have hfk : fnd free l = -1 := fnd_miss (fun j hj => HN.out j (by omega) hj)
          rw [hfk, if_neg (by omega)] at HD
          clear HA HN hfk
          have hfront : w.ownsRow b 39 3 (.slice A l.length ca) l.length (rfV (l.take l.length)) := by have := own_take hrow (show l.length ≤ l.length by omega); rwa [rfV_take] at this
          go_wp2_with (at_builtin; refine wpList_append_rows rfl _ _ 28 rfl w.heap.size 39 i0 (.agg #[.bool false, .int .i64 0, .string ⟨#[]⟩]) 3 32 Try.underlying28 hi hz0 hz1 hz2 rfl (by decide) _ 0 [] rfl (World.ownsRow_nil _ _ _ _) b _ l.length (rfV (l.take l.length)) rfl hfront (rfV_cells _) (by omega) (by omega) (Nat.le_refl _) ?_)
          intro v1 w1 ho1 hgrow1
          replace ho1 : w1.ownsRow w.heap.size 39 3 v1 l.length (rfV l) := by simpa using ho1
          have hb1 : Below w.heap.size w w1 := (Below.refl _ w).grown hgrow1 (Nat.le_refl _) (fun i hi => by simp [Value.ownBlock] at hi)
          clear hgrow1 hfront
          go_wp2_with (at_builtin; refine wpList_append_own _ rfl _ _ 28 rfl w.heap.size 39 i0 (.agg #[.bool false, .int .i64 0, .string ⟨#[]⟩]) 3 32 Try.underlying28 hi hz0 hz1 hz2 rfl (by decide) _ _ _ rfl (ho1.alloc _) ⟨_, 0, none⟩ 1 1 (rfC (some (id, x))) rfl rfl ?c1 (rfC_one _) ?c3 ?c4 ?c5 ?_)
          case c1 => exact World.news_of_block (cs := #[.bool true, .int .i64 id, .string x]) (heap_alloc_new w1 _)
          case c3 => unfold maxLen; omega
          case c4 => omega
          case c5 => have := hb1.size; simp; omega
          intro v2 w2 ho2 hgrow2 _
          have hb2 : Below w.heap.size w w2 := (hb1.alloc hb1.size _).grown hgrow2 (by have := hb1.size; simp; omega) (own_grown_ge ho1)
          have ho3 := rpush (J := l) (s := some (id, x)) ho2
          clear ho1 ho2 hgrow2 hb1
          go_wp2
          go_ret3
          exact ⟨_, by rw [HD.out]; rfl, by rw [HD.out]; exact own_base ho3 hbw, hb2⟩

end Go.Proofs.Ytgohdkjnmleblaa
