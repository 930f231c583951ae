/- The walk of the framer's end of a line, where a carriage return stands ahead or nothing does. -/
import Derived.Test.YtdgbhbifeohfjaaTextB
namespace Go.Proofs.Ytdgbhbifeohfjaa
open Go.RowKit

/-- A row's first bytes, as a string. -/
theorem cut_str (W : World) (g : Nat) (l : List UInt8) (n cap : Nat) (hl : l.length = n) (hc : ∀ j (hj : j < l.length), W.cell? ⟨g, j, none⟩ = some (.int .u8 (l[j].toNat : Int))) :
    (convert 68 9 (.slice (some ⟨g, 0, none⟩) n cap)).run Try.prog W = .ok (.string ⟨l.toArray⟩) W := by
  subst hl
  refine run_convert_bytes_back W 68 9 5 _ cap l Try.underlying68 Try.underlying5 Try.underlying9 (fun j hj => ?_)
  have e : (⟨g, 0, none⟩ : Addr).add j = ⟨g, j, none⟩ := by unfold Addr.add; split <;> simp_all
  rw [e]; exact hc j hj

set_option maxRecDepth 100000 in
set_option maxHeartbeats 2000000 in
theorem end_cr (base f m : Nat) (bv : Value) (p : List UInt8) (w : World) (hm : m ≤ 4096) (hf : FrAt w base f bv m p) (ho : heldO m p = false) (hn : 0 < p.length) (h13 : p[p.length - 1]'(by omega) = 13) :
    Calls Try.prog 38 #[.pointer (some ⟨f, 0, none⟩), .int .i64 (m : Int)] w fun e w' => e = .returned (LineV (lineOf m p)) ∧ Below w.heap.size w w' := by
  obtain ⟨hw, hown⟩ := hf
  rw [ho] at hw
  have hl := line_held ho
  rw [hl] at hown
  have hlt := hw.lt
  have hp : p.length ≤ 4097 := by unfold heldO at ho; rw [decide_eq_false_iff_not] at ho; omega
  clear ho hl
  obtain ⟨A, ca, rfl, hnm, _, _, hcs⟩ := own_form hown
  obtain ⟨g, rfl, _, hg, hcs⟩ := hcs 0 hn (by omega)
  have hc0 := hw.cell 0
  have hc1 := hw.cell 1
  simp only [List.getElem?_toArray, List.getElem?_cons_zero, List.getElem?_cons_succ] at hc0 hc1
  have hs0 := strip_yes hn h13
  obtain ⟨s, HS⟩ : ∃ s, Hid (s = strip p) := ⟨_, rfl⟩
  have HSL : Hid (s.length = p.length - 1) := by unfold Hid; rw [HS.out, hs0, List.length_dropLast]
  have HC : Hid (∀ j, (hj : j < s.length) → w.cell? ⟨g, j, none⟩ = some (.int .u8 (s[j].toNat : Int))) := by
    intro j hj
    have hj' : j < p.length := by rw [HSL.out] at hj; omega
    rw [hcs j (by omega), bytesV_at p j hj']
    congr 4
    simp [HS.out, hs0]
  have hlast : w.cell? ⟨g, p.length - 1, none⟩ = some (.int .u8 (p[p.length - 1].toNat : Int)) := by rw [hcs _ (by omega)]; exact bytesV_at p _ (by omega)
  have hd13 : (((p[p.length - 1]'(by omega)).toNat : Int) == 13) = true := by rw [h13]; rfl
  generalize p[p.length - 1]'(by omega) = q at *
  clear hcs hs0 h13 hown
  go_enter Try.func38, Try.ntmps38
  by_cases hbig : m < p.length - 1
  · have hr : Hid (lineOf m p = ([], 5)) := line_size (by rw [← HS.out, HSL.out]; exact hbig)
    go_wp2
    exact bodyPost_ret (v := .agg #[.string ⟨#[]⟩, .int .i64 5]) (by simp [results, Try.results38, go_sem]) rfl ⟨by rw [hr.out]; rfl, (Below.refl _ _).alloc (Nat.le_refl _) _⟩
  · have hconv := cut_str (w.alloc (.cells #[.string ⟨#[]⟩, .int .i64 0] 44)) g s (p.length - 1) (p.length - 1) HSL.out (fun j hj => by rw [World.cell?_alloc_past _ _ _ hg]; exact HC.out j hj)
    go_wp2
    go_loop [51] (fun i => ∃ k : Nat, k ≤ p.length - 1 ∧ i = .int .i64 k ∧ Hid (∀ j, (hj : j < s.length) → j < k → rightB s[j] = true)) (fun i => (p.length - 1) - (intOf i).toNat)
    case atStart => exact ⟨0, by omega, rfl, fun j _ h => absurd h (by omega)⟩
    case round =>
      obtain ⟨k, hk, rfl, HR⟩ := hrel
      by_cases hlt : k < p.length - 1
      · have hks : k < s.length := by rw [HSL.out]; exact hlt
        have hcell := HC.out k hks
        by_cases hgood : rightB s[k] = true
        · have HG := Lib.hid hgood
          go_wp2_with (go_at_call 41; refine (right_any _ _).mono ?_; rintro e w' ⟨rfl, rfl⟩)
          refine ⟨⟨k + 1, by omega, by go_num, fun j hj h => ?_⟩, by simp [intOf]; omega⟩
          by_cases e : j = k
          · subst e; exact HG.out
          · exact HR.out j hj (by omega)
        · have hgood' : rightB s[k] = false := by simpa using hgood
          have hr : Hid (lineOf m p = ([], 3)) := line_bad (by rw [← HS.out, HSL.out]; omega) k (by rw [← HS.out]; exact hks) (by simpa [HS.out] using hgood')
          clear hgood
          go_wp2_with (go_at_call 41; refine (right_any _ _).mono ?_; rintro e w' ⟨rfl, rfl⟩)
          exact bodyPost_ret (v := .agg #[.string ⟨#[]⟩, .int .i64 3]) (by simp [results, Try.results38, go_sem]) rfl ⟨by rw [hr.out]; rfl, (Below.refl _ _).alloc (Nat.le_refl _) _⟩
      · have hr : Hid (lineOf m p = (s, 0)) := by
          have := line_good (m := m) (p := p) (by rw [← HS.out, HSL.out]; omega) (by
            intro j hj
            have hj' : j < s.length := by rw [HS.out]; exact hj
            have := HR.out j hj' (by rw [HSL.out] at hj'; omega)
            simpa [HS.out] using this)
          unfold Hid; rw [this, HS.out]
        go_wp2
        exact bodyPost_ret (v := .agg #[.string ⟨s.toArray⟩, .int .i64 0]) (by simp [results, Try.results38, go_sem]) rfl ⟨by rw [hr.out]; rfl, (Below.refl _ _).alloc (Nat.le_refl _) _⟩

set_option maxHeartbeats 2000000 in
theorem end_empty (base f m : Nat) (bv : Value) (w : World) (hf : FrAt w base f bv m []) :
    Calls Try.prog 38 #[.pointer (some ⟨f, 0, none⟩), .int .i64 (m : Int)] w fun e w' => e = .returned (LineV (lineOf m [])) ∧ Below w.heap.size w w' := by
  obtain ⟨hw, hown⟩ := hf
  have hw0 : Whole w f 72 #[bv, .bool false, .int .i64 (m : Int)] := hw
  have hown0 : w.ownsRow base 5 1 bv 0 (bytesV []) := hown
  clear hw hown
  have hlt := hw0.lt
  have hconv := own_str (hown0.alloc (.cells #[.string ⟨#[]⟩, .int .i64 0] 44))
  obtain ⟨A, ca, rfl, hnm, _, _, _⟩ := own_form hown0
  have hc0 := hw0.cell 0
  have hc1 := hw0.cell 1
  simp only [List.getElem?_toArray, List.getElem?_cons_zero, List.getElem?_cons_succ] at hc0 hc1
  have hr : Hid (lineOf m [] = ([], 0)) := line_good (by simp [strip]) (by intro j hj; simp [strip] at hj)
  go_enter Try.func38, Try.ntmps38
  go_wp2
  refine wp_loop_rounds 1 ?_
  rw [rounds_succ]
  go_wp2
  exact bodyPost_ret (v := .agg #[.string ⟨#[]⟩, .int .i64 0]) (by simp [results, Try.results38, go_sem]) rfl ⟨by rw [hr.out]; rfl, (Below.refl _ _).alloc (Nat.le_refl _) _⟩

theorem end_any (base f m : Nat) (bv : Value) (p : List UInt8) (w : World) (hm : m ≤ 4096) (hf : FrAt w base f bv m p) :
    Calls Try.prog 38 #[.pointer (some ⟨f, 0, none⟩), .int .i64 (m : Int)] w fun e w' => e = .returned (LineV (lineOf m p)) ∧ Below w.heap.size w w' := by
  by_cases ho : heldO m p = true
  · exact end_over base f m bv p w hm hf ho
  · have ho' : heldO m p = false := by simpa using ho
    by_cases hn : 0 < p.length
    · by_cases h13 : p[p.length - 1]'(by omega) = 13
      · exact end_cr base f m bv p w hm hf ho' hn h13
      · exact end_plain base f m bv p w hm hf ho' hn h13
    · have : p = [] := List.eq_nil_of_length_eq_zero (by omega)
      subst this
      exact end_empty base f m bv w hf

end Go.Proofs.Ytdgbhbifeohfjaa
