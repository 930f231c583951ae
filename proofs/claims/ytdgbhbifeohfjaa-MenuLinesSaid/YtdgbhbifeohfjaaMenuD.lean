/- The walk of menu.Of. -/
import Derived.Test.YtdgbhbifeohfjaaMenuC
namespace Go.Proofs.Ytdgbhbifeohfjaa
open Go.RowKit

theorem key_any (c : Nat) (w : World) (hc : c ≤ 255) : Calls Try.prog 11 #[.int .u8 c] w fun e w' => e = .returned (.tuple #[.int .i64 (kA c), .int .i64 (kN c), .int .i64 (kL c)]) ∧ Below w.heap.size w w' := by
  by_cases h : 48 ≤ c ∧ c ≤ 57
  · exact key_digit c w h.1 h.2
  · exact key_other c w hc (by omega)

/-- One byte is put behind, or none. -/
theorem of_step (act : Int) (k : Nat) (hk : k ≤ 255) : (ofB act k = true → bytesV (ofTo act (k + 1)) = bytesV (ofTo act k) ++ [.int .u8 (k : Int)]) ∧ (ofB act k = false → ofTo act (k + 1) = ofTo act k) := by
  rw [ofTo_succ]
  constructor
  · intro h
    rw [if_pos h, bytesV_append]
    simp [bytesV]
    omega
  · intro h
    rw [if_neg (by simp [h]), List.append_nil]

set_option maxRecDepth 100000 in
set_option maxHeartbeats 1000000 in
theorem of_any (act : Int) (w : World) : Calls Try.prog 14 #[.int .i64 act] w fun e w' => e = .returned (.string ⟨(ofL act).toArray⟩) ∧ Below w.heap.size w w' := by
  obtain ⟨i0, hi, hz0, hz1, hz2⟩ := info_parts Try.info5
  go_enter Try.func14, Try.ntmps14
  go_wp2
  go_loopw [3, 8] (fun b i wr => ∃ k : Nat, k ≤ 256 ∧ i = .int .i64 k ∧ wr.ownsRow w.heap.size 5 1 b (ofTo act k).length (bytesV (ofTo act k)) ∧ Below w.heap.size w wr) (fun _ i _ => 256 - (intOf i).toNat)
  case atStart => exact ⟨0, by omega, rfl, World.ownsRow_nil _ _ _ _, Below.refl _ _⟩
  case round =>
    obtain ⟨k, hk, rfl, hown, hb⟩ := hrel
    by_cases hlt : k < 256
    · have hk' : k ≤ 255 := by omega
      go_wp2_with fail
      refine (key_any k _ hk').mono ?_; rintro e w1 ⟨rfl, hb1⟩
      have hown1 := own_below hown hb1
      have hb2 := below_then hb hb1
      clear hown hb hb1
      have HL := ofTo_length act k
      have hS := of_step act k hk'
      by_cases h1 : (kA k == act) = true
      · by_cases h2 : (act != 0) = true
        · have HS := Lib.hid (hS.1 (by simp [ofB, h1, h2]))
          have HE : (ofTo act (k + 1)).length = (ofTo act k).length + 1 := by
            have := congrArg List.length HS.out
            simpa [bytesV_length] using this
          have HE' := Lib.hid HE
          clear hS HE
          go_wp2_with (at_builtin; refine wpList_append_own _ rfl _ _ 68 rfl w.heap.size 5 i0 (.int .u8 0) 1 1 Try.underlying68 hi hz0 hz1 hz2 rfl (by decide) _ _ _ rfl (hown1.alloc _) ⟨w1.heap.size, 0, none⟩ 1 1 [.int .u8 (k : Int)] rfl rfl ?c1 ?c2 ?c3 ?c4 ?c5 ?_)
          case c1 => exact cell_one_new _ _ _
          case c2 => intro u hu; simp at hu; subst hu; rfl
          case c3 => unfold maxLen; omega
          case c4 => omega
          case c5 => have := hb2.size; simp; omega
          intro v' w2 hown' hgrow _
          have hb3 : Below w.heap.size w w2 := (hb2.alloc (by have := hb2.size; omega) _).grown hgrow (by have := hb2.size; simp; omega) (own_grown_ge hown1)
          rw [← HS.out, ← HE'.out] at hown'
          clear hown1 hgrow hb2
          go_wp2
          refine ⟨⟨k + 1, by omega, by go_num, hown', hb3⟩, by simp [intOf]; omega⟩
        · have HS := Lib.hid (hS.2 (by simp [ofB, h2]))
          have h2' : (act != 0) = false := by simpa using h2
          clear hS h2
          go_wp2
          refine ⟨⟨k + 1, by omega, by go_num, by rw [HS.out]; exact hown1, hb2⟩, by simp [intOf]; omega⟩
      · have HS := Lib.hid (hS.2 (by simp [ofB, h1]))
        have h1' : (kA k == act) = false := by simpa using h1
        clear hS h1
        go_wp2
        refine ⟨⟨k + 1, by omega, by go_num, by rw [HS.out]; exact hown1, hb2⟩, by simp [intOf]; omega⟩
    · have ek : k = 256 := by omega
      subst ek
      have hstr := own_str hown
      go_wp2
      go_ret
      exact ⟨rfl, hb⟩

end Go.Proofs.Ytdgbhbifeohfjaa
