/- The walk of the framer's end of a line. -/
import Derived.Test.YtdgbhbifeohfjaaTextA
namespace Go.Proofs.Ytdgbhbifeohfjaa
open Go.RowKit

def LineV (l : List UInt8 × Int) : Value := .agg #[.string ⟨l.1.toArray⟩, .int .i64 l.2]

set_option maxHeartbeats 1000000 in
theorem end_over (base f m : Nat) (bv : Value) (p : List UInt8) (w : World) (hm : m ≤ 4096) (hf : FrAt w base f bv m p) (ho : heldO m p = true) :
    Calls Try.prog 38 #[.pointer (some ⟨f, 0, none⟩), .int .i64 (m : Int)] w fun e w' => e = .returned (LineV (lineOf m p)) ∧ Below w.heap.size w w' := by
  obtain ⟨hw, hown⟩ := hf
  rw [ho] at hw
  obtain ⟨A, ca, rfl, hnm, _, _, _⟩ := own_form hown
  have hc0 := hw.cell 0
  have hc1 := hw.cell 1
  simp only [List.getElem?_toArray, List.getElem?_cons_zero, List.getElem?_cons_succ] at hc0 hc1
  have hlt := hw.lt
  have hlen := held_length m p
  have hle : (heldL m p).length ≤ 4097 := by omega
  clear hlen
  have HL := Lib.hid (line_over ho)
  clear ho
  go_enter Try.func38, Try.ntmps38
  go_wp2
  exact bodyPost_ret (v := .agg #[.string ⟨#[]⟩, .int .i64 5]) (by simp [results, Try.results38, go_sem]) rfl ⟨by rw [HL.out]; rfl, (Below.refl _ _).alloc (Nat.le_refl _) _⟩

theorem bytesV_at (l : List UInt8) (j : Nat) (hj : j < l.length) : (bytesV l)[j]? = some (.int .u8 (l[j].toNat : Int)) := by
  unfold bytesV; rw [List.getElem?_map, List.getElem?_eq_getElem hj]; rfl

set_option maxRecDepth 100000 in
set_option maxHeartbeats 2000000 in
theorem end_plain (base f m : Nat) (bv : Value) (p : List UInt8) (w : World) (hm : m ≤ 4096) (hf : FrAt w base f bv m p) (ho : heldO m p = false) (hn : 0 < p.length) (h13 : p[p.length - 1]'(by omega) ≠ 13) :
    Calls Try.prog 38 #[.pointer (some ⟨f, 0, none⟩), .int .i64 (m : Int)] w fun e w' => e = .returned (LineV (lineOf m p)) ∧ Below w.heap.size w w' := by
  obtain ⟨hw, hown⟩ := hf
  rw [ho] at hw
  have hl := line_held ho
  rw [hl] at hown
  have hlt := hw.lt
  have hp : p.length ≤ 4097 := by unfold heldO at ho; rw [decide_eq_false_iff_not] at ho; omega
  clear ho hl
  obtain ⟨A, ca, rfl, hnm, _, _, hcs⟩ := own_form hown
  obtain ⟨g, rfl, _, hg, hcs⟩ := hcs 0 hn (by omega)
  have hc0 := hw.cell 0
  have hc1 := hw.cell 1
  simp only [List.getElem?_toArray, List.getElem?_cons_zero, List.getElem?_cons_succ] at hc0 hc1
  have hs0 := strip_no hn h13
  obtain ⟨s, HS⟩ : ∃ s, Hid (s = strip p) := ⟨_, rfl⟩
  have HSL : Hid (s.length = p.length) := by unfold Hid; rw [HS.out, hs0]
  have HC : Hid (∀ j, (hj : j < s.length) → w.cell? ⟨g, j, none⟩ = some (.int .u8 (s[j].toNat : Int))) := by
    intro j hj
    have hj' : j < p.length := by rw [HSL.out] at hj; exact hj
    rw [hcs j (by omega), bytesV_at p j hj']
    congr 4
    simp [HS.out, hs0]
  have hown' : w.ownsRow base 5 1 (.slice (some ⟨g, 0, none⟩) p.length ca) p.length (bytesV s) := by rw [HS.out, hs0]; exact hown
  have hlast : w.cell? ⟨g, p.length - 1, none⟩ = some (.int .u8 (p[p.length - 1].toNat : Int)) := by rw [hcs _ (by omega)]; exact bytesV_at p _ (by omega)
  have hd13 : (((p[p.length - 1]'(by omega)).toNat : Int) == 13) = false := by
    rw [beq_eq_false_iff_ne]
    intro e
    exact h13 (UInt8.toNat_inj.1 (by show _ = 13; omega))
  generalize p[p.length - 1]'(by omega) = q at *
  clear hcs hs0 h13 hown
  go_enter Try.func38, Try.ntmps38
  by_cases hbig : m < p.length
  · have hr : Hid (lineOf m p = ([], 5)) := line_size (by rw [← HS.out, HSL.out]; exact hbig)
    go_wp2
    exact bodyPost_ret (v := .agg #[.string ⟨#[]⟩, .int .i64 5]) (by simp [results, Try.results38, go_sem]) rfl ⟨by rw [hr.out]; rfl, (Below.refl _ _).alloc (Nat.le_refl _) _⟩
  · have hconv := own_str (hown'.alloc (.cells #[.string ⟨#[]⟩, .int .i64 0] 44))
    go_wp2
    go_loop [51] (fun i => ∃ k : Nat, k ≤ p.length ∧ i = .int .i64 k ∧ Hid (∀ j, (hj : j < s.length) → j < k → rightB s[j] = true)) (fun i => p.length - (intOf i).toNat)
    case atStart => exact ⟨0, by omega, rfl, fun j _ h => absurd h (by omega)⟩
    case round =>
      obtain ⟨k, hk, rfl, HR⟩ := hrel
      by_cases hlt : k < p.length
      · have hks : k < s.length := by rw [HSL.out]; exact hlt
        have hcell := HC.out k hks
        by_cases hgood : rightB s[k] = true
        · have HG := Lib.hid hgood
          go_wp2_with (go_at_call 41; refine (right_any _ _).mono ?_; rintro e w' ⟨rfl, rfl⟩)
          refine ⟨⟨k + 1, by omega, by go_num, fun j hj h => ?_⟩, by simp [intOf]; omega⟩
          by_cases e : j = k
          · subst e; exact HG.out
          · exact HR.out j hj (by omega)
        · have hgood' : rightB s[k] = false := by simpa using hgood
          have hr : Hid (lineOf m p = ([], 3)) := line_bad (by rw [← HS.out, HSL.out]; omega) k (by rw [← HS.out]; exact hks) (by simpa [HS.out] using hgood')
          clear hgood
          go_wp2_with (go_at_call 41; refine (right_any _ _).mono ?_; rintro e w' ⟨rfl, rfl⟩)
          exact bodyPost_ret (v := .agg #[.string ⟨#[]⟩, .int .i64 3]) (by simp [results, Try.results38, go_sem]) rfl ⟨by rw [hr.out]; rfl, (Below.refl _ _).alloc (Nat.le_refl _) _⟩
      · have hr : Hid (lineOf m p = (s, 0)) := by
          have := line_good (m := m) (p := p) (by rw [← HS.out, HSL.out]; omega) (by
            intro j hj
            have hj' : j < s.length := by rw [HS.out]; exact hj
            have := HR.out j hj' (by rw [HSL.out] at hj'; omega)
            simpa [HS.out] using this)
          unfold Hid; rw [this, HS.out]
        go_wp2
        exact bodyPost_ret (v := .agg #[.string ⟨s.toArray⟩, .int .i64 0]) (by simp [results, Try.results38, go_sem]) rfl ⟨by rw [hr.out]; rfl, (Below.refl _ _).alloc (Nat.le_refl _) _⟩

end Go.Proofs.Ytdgbhbifeohfjaa
