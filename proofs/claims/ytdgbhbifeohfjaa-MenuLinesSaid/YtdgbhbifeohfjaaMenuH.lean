/- The walk of the law MenuLines. -/
import Derived.Test.YtdgbhbifeohfjaaMenuG
namespace Go.Proofs.Ytdgbhbifeohfjaa
open Go.RowKit

/-- What a line of the menu is good for. -/
theorem line_facts (level : Int) (k : Nat) (hk : k < (mAll (lc level)).length) :
    1 ≤ ((mAll (lc level)).getD k []).length ∧ 1 ≤ kL (((mAll (lc level)).getD k []).getD 0 0).toNat ∧ kL (((mAll (lc level)).getD k []).getD 0 0).toNat ≤ level := by
  have h4 := lc_lt level
  have hl := all_length ⟨lc level, h4⟩
  have := all_lines ⟨lc level, h4⟩ ⟨k, Nat.lt_of_lt_of_le hk hl⟩ hk
  simp only [] at this
  obtain ⟨a, b, c⟩ := this
  refine ⟨a, b, ?_⟩
  have hpos : 1 ≤ lc level := by omega
  have := (lc_ge (level := level) hpos (by omega)).2 (Nat.le_refl _)
  omega

/-- Where the last line of the law's loop stands: how the menu of one level more is as long at least. -/
theorem more_lines (level : Int) : (mAll (lc level)).length ≤ (mAll (lc (level + 1))).length := all_mono ⟨_, lc_lt level⟩ ⟨_, lc_lt _⟩ (lc_mono level)

set_option maxRecDepth 100000 in
set_option maxHeartbeats 1000000 in
theorem mlines_any (level : Int) (w : World) (hlo : -9223372036854775808 ≤ level) (hhi : level ≤ 9223372036854775807) : Calls Try.prog 4 #[.int .i64 level] w fun e w' => e = .returned (.bool true) ∧ Below w.heap.size w w' := by
  have HS := Lib.hid (all_same ⟨lc level, lc_lt level⟩)
  simp only [] at HS
  have hl14 := all_length ⟨lc level, lc_lt level⟩
  simp only [] at hl14
  have HF := Lib.hid (line_facts level)
  have HM := Lib.hid (more_lines level)
  have hmore := HM.out
  have hm14 := all_length ⟨lc (level + 1), lc_lt _⟩
  simp only [] at hm14
  go_enter Try.func4, Try.ntmps4
  go_wp2_with fail
  refine (lines_any level _).mono ?_; rintro e w1 ⟨v1, rfl, ho1, hb1⟩
  go_wp2_with fail
  refine (rlines_any level _).mono ?_; rintro e w2 ⟨v2, rfl, ho2, hb2⟩
  rw [← HS.out] at ho2
  have ho1' := own_below ho1 hb2
  clear ho1
  obtain ⟨l, hl⟩ : ∃ l, Hid (l = mAll (lc level)) := ⟨_, rfl⟩
  rw [← hl.out] at ho1' ho2 hl14 hmore
  have HF' : Hid (∀ k, k < l.length → 1 ≤ (l.getD k []).length ∧ 1 ≤ kL ((l.getD k []).getD 0 0).toNat ∧ kL ((l.getD k []).getD 0 0).toNat ≤ level) := by
    unfold Hid; rw [hl.out]; exact HF.out
  clear HF HS HM
  go_wp2_with fail
  refine (same_true _ _ v1 v2 l _ ho1' ho2).mono ?_; rintro e w3 ⟨rfl, hb3⟩
  have ho3 := own_below ho1' hb3
  have hb4 := below_then hb1 (below_then hb2 hb3)
  clear ho1' ho2 hb1 hb2 hb3
  obtain ⟨A, ca, rfl, hm, _, _, ha⟩ := own_form ho3
  have HA := Lib.hid ha
  clear ha ho3
  go_wp2
  go_loopw [4] (fun i wr => ∃ k : Nat, k ≤ l.length ∧ i = .int .i64 k ∧ Below w3.heap.size w3 wr) (fun i _ => l.length - (intOf i).toNat)
  case atStart => exact ⟨0, by omega, rfl, Below.refl _ _⟩
  case round =>
    obtain ⟨k, hk, rfl, hb⟩ := hrel
    by_cases hlt : k < l.length
    · obtain ⟨g, rfl, _, hg, c1⟩ := HA.out k hlt (by omega)
      have d0 := (c1 k (by omega)).trans (strsV_at l k hlt)
      have d1 : wr.cell? ⟨g, k, none⟩ = some (.string ⟨(l.getD k []).toArray⟩) := (hb.cell (p := ⟨g, k, none⟩) hg).trans d0
      obtain ⟨e1, e2, e3⟩ := HF'.out k hlt
      clear c1 d0
      generalize l.getD k [] = s at *
      obtain ⟨q, t, rfl⟩ : ∃ q t, s = q :: t := by
        cases s with
        | nil => simp at e1
        | cons q t => exact ⟨q, t, rfl⟩
      simp only [List.getD_cons_zero] at e2 e3
      have hq : q.toNat ≤ 255 := by have := UInt8.toNat_lt q; omega
      clear e1
      go_wp2_with fail
      refine (key_any q.toNat _ hq).mono ?_; rintro e w5 ⟨rfl, hb5⟩
      generalize kL q.toNat = z at *
      go_wp2_with fail
      exact ⟨⟨k + 1, by omega, by go_num, hb.trans (hb5.mono hb.size)⟩, by simp [intOf]; omega⟩
    · have hb6 := below_then hb4 hb
      by_cases h40 : 1099511627776 < level
      · go_wp2_with fail
        go_ret
        exact ⟨rfl, hb6⟩
      · go_wp2_with fail
        refine (lines_any (level + 1) _).mono ?_; rintro e w7 ⟨v7, rfl, ho7, hb7⟩
        obtain ⟨A7, c7, rfl, _⟩ := own_form ho7
        generalize (mAll (lc (level + 1))).length = m at *
        go_wp2_with fail
        refine (works35 _).mono ?_; rintro e w8 ⟨rfl, hb8⟩
        go_wp2_with fail
        go_ret
        exact ⟨rfl, below_then hb6 (below_then hb7 hb8)⟩

end Go.Proofs.Ytdgbhbifeohfjaa
