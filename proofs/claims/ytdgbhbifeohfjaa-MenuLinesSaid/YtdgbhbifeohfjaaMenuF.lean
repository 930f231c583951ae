/- The walk of the reference's Lines. -/
import Derived.Test.YtdgbhbifeohfjaaMenuE
import Derived.Deep.RegionLaw
namespace Go.Proofs.Ytdgbhbifeohfjaa
open Go.RowKit
attribute [local go_sem ↓] Go.wp_at_zero Go.wp_at_succ

theorem tab_facts (w : World) (k : Nat) (h : k < 15) :
    (w.alloc (.cells keyCells 9)).cell? ⟨w.heap.size, k, none⟩ = some (.string ⟨(rKey k).toArray⟩) ∧
    ((w.alloc (.cells keyCells 9)).alloc (.cells sayCells 9)).cell? ⟨w.heap.size + 1, k, none⟩ = some (.string ⟨(rSay k).toArray⟩) ∧
    ((w.alloc (.cells keyCells 9)).alloc (.cells sayCells 9)).cell? ⟨w.heap.size, k, none⟩ = some (.string ⟨(rKey k).toArray⟩) ∧
    (w.alloc (.cells sayCells 9)).cell? ⟨w.heap.size, k, none⟩ = some (.string ⟨(rSay k).toArray⟩) ∧
    ((w.alloc (.cells sayCells 9)).alloc (.cells keyCells 9)).cell? ⟨w.heap.size + 1, k, none⟩ = some (.string ⟨(rKey k).toArray⟩) ∧
    ((w.alloc (.cells sayCells 9)).alloc (.cells keyCells 9)).cell? ⟨w.heap.size, k, none⟩ = some (.string ⟨(rSay k).toArray⟩) := by
  have a1 := key_at w k h
  have a2 := say_at (w.alloc (.cells keyCells 9)) k h
  have b1 := say_at w k h
  have b2 := key_at (w.alloc (.cells sayCells 9)) k h
  refine ⟨a1, by simpa using a2, ?_, b1, by simpa using b2, ?_⟩
  · rw [World.cell?_alloc_past _ _ _ (by simp)]; exact a1
  · rw [World.cell?_alloc_past _ _ _ (by simp)]; exact b1

set_option maxRecDepth 100000 in
set_option maxHeartbeats 2000000 in
theorem rlines_any (level : Int) (w : World) : Calls Try.prog 18 #[.int .i64 level] w (RetStrs (rAll (lc level)) w) := by
  obtain ⟨i0, hi, hz0, hz1, hz2⟩ := info_parts Try.info9
  go_enter Try.func18, Try.ntmps18
  go_wp2
  go_loopw [3, 4] (fun b i wr => ∃ k : Nat, 1 ≤ k ∧ k ≤ 15 ∧ i = .int .i64 k ∧ wr.ownsRow w.heap.size 9 1 b (rTo (lc level) k).length (strsV (rTo (lc level) k)) ∧ Below w.heap.size w wr) (fun _ i _ => 15 - (intOf i).toNat)
  case atStart => exact ⟨1, by omega, by omega, rfl, World.ownsRow_nil _ _ _ _, Below.refl _ _⟩
  case round =>
    obtain ⟨k, hk1, hk, rfl, hown, hb⟩ := hrel
    by_cases hlt : k < 15
    · obtain ⟨l1, l3, lk, ls⟩ := rAt_facts ⟨k, hlt⟩ hk1
      simp only [] at l1 l3 lk ls
      have HG := Lib.hid (lc_ge (level := level) l1 l3)
      have HS := Lib.hid (rTo_succ (lc level) k hk1)
      have HL := rTo_length (lc level) k
      have g0 : (0 : Int) ≤ (k : Int) := by omega
      have g1 : (k : Int) < 15 := by omega
      have hlv := lev_at wr k hlt
      by_cases h12 : ((k : Int) != 12) = true
      · by_cases hle : (rL k : Int) ≤ level
        · have HE : rTo (lc level) (k + 1) = rTo (lc level) k ++ [rKey k ++ [32] ++ rSay k] := by
            rw [HS.out, if_pos]
            unfold rOk
            rw [Bool.and_eq_true, decide_eq_true_iff]
            exact ⟨by rw [bne_iff_ne] at h12 ⊢; omega, HG.out.1 hle⟩
          have HE' := Lib.hid HE
          clear HE
          go_wp2_with (go_at_call 35; refine (levels_any _).mono ?_; rintro e w' ⟨rfl, rfl⟩)
          have hown1 := hown.alloc (.cells levCells 3)
          have hb1 := hb.alloc hb.size (.cells levCells 3)
          generalize wr.alloc (.cells levCells 3) = w3 at *
          obtain ⟨f1, f2, f3, f4, f5, f6⟩ := tab_facts w3 k hlt
          clear hown hb hlv
          have hbz := hb1.size
          have hA : ¬ 9223372036854775807 < (rKey k).length + 1 := by omega
          have hB : ¬ 9223372036854775807 < (rKey k).length + 1 + (rSay k).length := by omega
          go_region_law (first | (refine step_append_lies _ (by rfl) _ _ _ (by rfl) w.heap.size 9 i0 (.string ⟨#[]⟩) 1 16 Try.underlying24 hi hz0 hz1 hz2 rfl (by omega) u3 (rTo (lc level) k).length (strsV (rTo (lc level) k)) (by rfl) (((hown1.alloc _).alloc _).alloc _) ⟨w3.heap.size + 1 + 1, 0, none⟩ 1 1 [.string ((⟨(rKey k).toArray⟩ : ByteArray) ++ ⟨#[32]⟩ ++ ⟨(rSay k).toArray⟩)] (by rfl) (by rfl) (cell_one_at _ _ (by simp) _ _) (by intro u hu; simp at hu; subst hu; rfl) (by omega) (by unfold maxLen; omega) (by omega) (by simp; omega) _ rfl ?_; intro gg cap w4 hown4 hgrow hat hlt4) | (go_simp; go_at_call 13; refine (keys_any _).mono ?_; rintro e w' ⟨rfl, rfl⟩) | (go_simp; go_at_call 36; refine (says_any _).mono ?_; rintro e w' ⟨rfl, rfl⟩))
          all_goals
            have hb3 : Below w.heap.size w w4 := ((((hb1.alloc hbz _).alloc (by simp; omega) _).alloc (by simp; omega) _).drew).grown hgrow (by simp; omega) (own_grown_ge hown1)
            have HX : strsV (rTo (lc level) (k + 1)) = strsV (rTo (lc level) k) ++ [.string ((⟨(rKey k).toArray⟩ : ByteArray) ++ ⟨#[32]⟩ ++ ⟨(rSay k).toArray⟩)] := by
              rw [HE'.out, strsV_append]
              congr 1
            have HN : (rTo (lc level) (k + 1)).length = (rTo (lc level) k).length + 1 := by rw [HE'.out]; simp
            have hown5 : w4.ownsRow w.heap.size 9 1 (.slice (some ⟨gg, 0, none⟩) ((rTo (lc level) k).length + 1) cap) (rTo (lc level) (k + 1)).length (strsV (rTo (lc level) (k + 1))) := by rw [HX, HN]; exact hown4
            clear HX HN hown4 hgrow hat hlt4 f1 f2 f3 f4 f5 f6 hA hB hb1 hown1
            go_wp2
            refine ⟨⟨k + 1, by omega, by omega, by go_num, hown5, hb3⟩, by simp [intOf]; omega⟩
        · have HE : rTo (lc level) (k + 1) = rTo (lc level) k := by
            rw [HS.out, if_neg, List.append_nil]
            unfold rOk
            rw [Bool.and_eq_true, decide_eq_true_iff]
            exact fun h => hle (HG.out.2 h.2)
          have HE' := Lib.hid HE
          clear HE
          go_wp2_with (go_at_call 35; refine (levels_any _).mono ?_; rintro e w' ⟨rfl, rfl⟩)
          refine ⟨⟨k + 1, by omega, by omega, by go_num, by rw [HE'.out]; exact hown.alloc _, hb.alloc hb.size _⟩, by simp [intOf]; omega⟩
      · have h12' : ((k : Int) != 12) = false := by simpa using h12
        have HE : rTo (lc level) (k + 1) = rTo (lc level) k := by
          rw [HS.out, if_neg, List.append_nil]
          unfold rOk
          rw [Bool.and_eq_true]
          intro h
          have := h.1
          rw [bne_iff_ne] at this
          rw [bne_eq_false_iff_eq] at h12'
          omega
        have HE' := Lib.hid HE
        clear HE h12
        go_wp2_with fail
        refine ⟨⟨k + 1, by omega, by omega, by go_num, by rw [HE'.out]; exact hown, hb⟩, by simp [intOf]; omega⟩
    · have e15 : k = 15 := by omega
      subst e15
      have HG := Lib.hid (lc_ge (level := level) (k := 2) (by omega) (by omega))
      have HL := rTo_length (lc level) 15
      by_cases h2 : 2 ≤ level
      · go_wp2_with (at_builtin; refine wpList_append_own _ rfl _ _ 24 rfl w.heap.size 9 i0 (.string ⟨#[]⟩) 1 16 Try.underlying24 hi hz0 hz1 hz2 rfl (by decide) _ _ _ rfl (hown.alloc _) ⟨_, 0, none⟩ 1 1 [.string ⟨brkLine.toArray⟩] rfl rfl ?c6 ?c7 ?c8 ?c9 ?c10 ?_)
        case c6 => exact cell_one_new _ _ _
        case c7 => intro u hu; simp at hu; subst hu; rfl
        case c8 => unfold maxLen; omega
        case c9 => omega
        case c10 => have := hb.size; simp; omega
        intro v' w2 hown' hgrow _
        have hb3 : Below w.heap.size w w2 := (hb.alloc hb.size _).grown hgrow (by have := hb.size; simp; omega) (own_grown_ge hown)
        have HE : rAll (lc level) = rTo (lc level) 15 ++ [brkLine] := by unfold rAll; rw [if_pos (HG.out.1 h2)]
        have HX : strsV (rAll (lc level)) = strsV (rTo (lc level) 15) ++ [.string ⟨brkLine.toArray⟩] := by rw [HE, strsV_append]; rfl
        have HN : (rAll (lc level)).length = (rTo (lc level) 15).length + 1 := by rw [HE]; simp
        rw [← HX, ← HN] at hown'
        clear HX HN HE hown hgrow hb
        go_wp2
        go_ret
        exact ⟨_, rfl, hown', hb3⟩
      · have HE : rAll (lc level) = rTo (lc level) 15 := by unfold rAll; rw [if_neg (fun h => h2 (HG.out.2 h)), List.append_nil]
        have HE' := Lib.hid HE
        clear HE
        go_wp2
        go_ret
        exact ⟨_, rfl, by rw [HE'.out]; exact hown, hb⟩

end Go.Proofs.Ytdgbhbifeohfjaa
