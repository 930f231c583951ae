/- Walks of the reference's tables and Key. -/
import Derived.Test.YtdgbhbifeohfjaaMenuB
import Derived.Deep.RegionWith
namespace Go.Proofs.Ytdgbhbifeohfjaa
open Go.RowKit
attribute [local go_sem ↓] Go.wp_at_zero Go.wp_at_succ

def keyCells : Array Value := #[.string ⟨#[]⟩, .string ⟨#[46]⟩, .string ⟨#[97]⟩, .string ⟨#[98]⟩, .string ⟨#[102]⟩, .string ⟨#[115]⟩, .string ⟨#[114]⟩, .string ⟨#[119]⟩, .string ⟨#[105]⟩, .string ⟨#[100]⟩, .string ⟨#[117]⟩, .string ⟨#[108]⟩, .string ⟨#[48, 49, 50, 51, 52, 53, 54, 55, 56, 57]⟩, .string ⟨#[101]⟩, .string ⟨#[63]⟩]
def sayCells : Array Value := #[.string ⟨#[]⟩, .string ⟨#[108, 101, 97, 118, 101, 32, 116, 104, 101, 32, 99, 111, 110, 115, 111, 108, 101]⟩, .string ⟨#[119, 114, 105, 116, 101, 44, 32, 111, 114, 32, 119, 97, 105, 116, 32, 116, 111]⟩, .string ⟨#[119, 114, 105, 116, 101, 32, 105, 110, 32, 112, 108, 97, 99, 101, 32, 111, 102, 32, 111, 110, 101, 32, 119, 104, 111, 32, 109, 97, 121, 32, 100, 111, 32, 108, 101, 115, 115]⟩, .string ⟨#[119, 114, 105, 116, 101, 32, 105, 110, 32, 112, 108, 97, 99, 101, 32, 111, 102, 32, 119, 104, 111, 101, 118, 101, 114, 32, 100, 111, 101, 115]⟩, .string ⟨#[108, 111, 111, 107, 32, 111, 110]⟩, .string ⟨#[115, 104, 111, 119, 32, 116, 104, 101, 32, 108, 97, 115, 116, 32, 108, 105, 110, 101, 115]⟩, .string ⟨#[108, 105, 115, 116, 32, 119, 104, 111, 32, 105, 115, 32, 116, 104, 101, 114, 101]⟩, .string ⟨#[116, 101, 108, 108, 32, 104, 111, 119, 32, 116, 104, 101, 32, 99, 111, 110, 115, 111, 108, 101, 32, 105, 115]⟩, .string ⟨#[116, 117, 114, 110, 32, 116, 104, 101, 32, 108, 105, 110, 101, 32, 111, 102, 102]⟩, .string ⟨#[116, 117, 114, 110, 32, 116, 104, 101, 32, 108, 105, 110, 101, 32, 111, 110]⟩, .string ⟨#[111, 112, 101, 110, 32, 116, 104, 101, 32, 108, 111, 103, 32, 97, 103, 97, 105, 110]⟩, .string ⟨#[]⟩, .string ⟨#[115, 101, 110, 100, 32, 116, 104, 101, 32, 101, 115, 99, 97, 112, 101, 32, 105, 116, 115, 101, 108, 102]⟩, .string ⟨#[108, 105, 115, 116, 32, 97, 108, 108, 32, 107, 101, 121, 115]⟩]
def levCells : Array Value := #[.int .i64 0, .int .i64 1, .int .i64 2, .int .i64 2, .int .i64 3, .int .i64 1, .int .i64 1, .int .i64 1, .int .i64 1, .int .i64 3, .int .i64 3, .int .i64 3, .int .i64 2, .int .i64 2, .int .i64 1]

set_option maxHeartbeats 400000 in
theorem keys_any (w : World) : Calls Try.prog 13 #[] w fun e w' => e = .returned (.slice (some ⟨w.heap.size, 0, none⟩) 15 15) ∧ w' = w.alloc (.cells keyCells 9) := by
  go_enter Try.func13, Try.ntmps13
  go_wp2
  go_ret
  exact ⟨rfl, rfl⟩
set_option maxHeartbeats 400000 in
theorem says_any (w : World) : Calls Try.prog 36 #[] w fun e w' => e = .returned (.slice (some ⟨w.heap.size, 0, none⟩) 15 15) ∧ w' = w.alloc (.cells sayCells 9) := by
  go_enter Try.func36, Try.ntmps36
  go_wp2
  go_ret
  exact ⟨rfl, rfl⟩
set_option maxHeartbeats 400000 in
theorem levels_any (w : World) : Calls Try.prog 35 #[] w fun e w' => e = .returned (.slice (some ⟨w.heap.size, 0, none⟩) 15 15) ∧ w' = w.alloc (.cells levCells 3) := by
  go_enter Try.func35, Try.ntmps35
  go_wp2
  go_ret
  exact ⟨rfl, rfl⟩

theorem table_cell (k : Nat) (h : k < 15) : keyCells[k]? = some (.string ⟨(rKey k).toArray⟩) ∧ sayCells[k]? = some (.string ⟨(rSay k).toArray⟩) ∧ levCells[k]? = some (.int .i64 (rL k : Int)) := by
  rcases (by omega : k = 0 ∨ k = 1 ∨ k = 2 ∨ k = 3 ∨ k = 4 ∨ k = 5 ∨ k = 6 ∨ k = 7 ∨ k = 8 ∨ k = 9 ∨ k = 10 ∨ k = 11 ∨ k = 12 ∨ k = 13 ∨ k = 14) with rfl | rfl | rfl | rfl | rfl | rfl | rfl | rfl | rfl | rfl | rfl | rfl | rfl | rfl | rfl <;> exact ⟨rfl, rfl, rfl⟩
theorem key_at (w : World) (k : Nat) (h : k < 15) : (w.alloc (.cells keyCells 9)).cell? ⟨w.heap.size, k, none⟩ = some (.string ⟨(rKey k).toArray⟩) := by rw [World.cell?_alloc_mark]; exact (table_cell k h).1
theorem say_at (w : World) (k : Nat) (h : k < 15) : (w.alloc (.cells sayCells 9)).cell? ⟨w.heap.size, k, none⟩ = some (.string ⟨(rSay k).toArray⟩) := by rw [World.cell?_alloc_mark]; exact (table_cell k h).2.1
theorem lev_at (w : World) (k : Nat) (h : k < 15) : (w.alloc (.cells levCells 3)).cell? ⟨w.heap.size, k, none⟩ = some (.int .i64 (rL k : Int)) := by rw [World.cell?_alloc_mark]; exact (table_cell k h).2.2

theorem byte_of (l : List UInt8) (n : Nat) (h : n < l.length) (hs : n < (⟨l.toArray⟩ : ByteArray).size) : (⟨l.toArray⟩ : ByteArray)[n]'hs = l.getD n 0 := by
  rw [List.getD_eq_getElem?_getD, List.getElem?_eq_getElem h]; rfl

set_option maxHeartbeats 1000000 in
theorem rkey_any (c : Nat) (w : World) (hc : c ≤ 255) : Calls Try.prog 12 #[.int .u8 c] w fun e w' => e = .returned (.tuple #[.int .i64 (kA c), .int .i64 (kN c), .int .i64 (kL c)]) ∧ Below w.heap.size w w' := by
  go_enter Try.func12, Try.ntmps12
  go_wp2_with (go_at_call 13; refine (keys_any _).mono ?_; rintro e w' ⟨rfl, rfl⟩)
  go_loop [6] (fun i => ∃ k : Nat, 1 ≤ k ∧ k ≤ 15 ∧ i = .int .i64 k ∧ Hid (∀ j, 1 ≤ j → j < k → ∀ n, n < (rKey j).length → ((rKey j).getD n 0).toNat ≠ c)) (fun i => 15 - (intOf i).toNat)
  case atStart => exact ⟨1, by omega, by omega, rfl, fun j h1 h2 => absurd h2 (by omega)⟩
  case round =>
    obtain ⟨k, hk1, hk, rfl, HN⟩ := hrel
    by_cases hlt : k < 15
    · have hl10 := rKey_length ⟨k, hlt⟩
      simp only [] at hl10
      have hcell := key_at w k hlt
      go_wp2
      go_loop [7] (fun i => ∃ n : Nat, n ≤ (rKey k).length ∧ i = .int .i64 n ∧ Hid (∀ m, m < n → ((rKey k).getD m 0).toNat ≠ c)) (fun i => (rKey k).length - (intOf i).toNat)
      case atStart => exact ⟨0, by omega, rfl, fun j h1 => absurd h1 (by omega)⟩
      case round =>
        obtain ⟨n, hn, rfl, HM⟩ := hrel
        by_cases hnl : n < (rKey k).length
        · have hsz : n < (⟨(rKey k).toArray⟩ : ByteArray).size := by show n < (rKey k).toArray.size; simpa using hnl
          have hb := byte_of (rKey k) n hnl hsz
          by_cases he : ((rKey k).getD n 0).toNat = c
          · have hd : ((((⟨(rKey k).toArray⟩ : ByteArray)[n]'hsz).toNat : Int) == (c : Int)) = true := by rw [hb, he, beq_self_eq_true]
            obtain ⟨f1, f2, f3⟩ := rFound' hlt hnl he
            have HF := Lib.hid (And.intro f1 (And.intro f2 f3))
            clear f1 f2 f3 he hb
            have g0 : (0 : Int) ≤ (k : Int) := by omega
            have g1 : (k : Int) < 15 := by omega
            have hlv : ((w.alloc (.cells keyCells 9)).alloc (.cells levCells 3)).cell? ⟨w.heap.size + 1, k, none⟩ = some (.int .i64 (rL k : Int)) := by have := lev_at (w.alloc (.cells keyCells 9)) k hlt; simpa using this
            go_wp2
            go_region_with (first | (go_at_call 35; refine (levels_any _).mono ?_; rintro e w' ⟨rfl, rfl⟩))
            all_goals go_wp2
            all_goals go_ret3
            all_goals exact ⟨by rw [HF.out.1, HF.out.2.1, HF.out.2.2]; rfl, ((Below.refl _ _).alloc (Nat.le_refl _) _ |>.alloc (by simp) _).drew⟩
          · have hd : ((((⟨(rKey k).toArray⟩ : ByteArray)[n]'hsz).toNat : Int) == (c : Int)) = false := by rw [hb]; rw [beq_eq_false_iff_ne]; omega
            have HE := Lib.hid he
            clear he hb
            go_wp2
            refine ⟨⟨n + 1, by omega, by go_num, fun m hm => ?_⟩, by simp [intOf]; omega⟩
            by_cases e : m = n
            · subst e; exact HE.out
            · exact HM.out m (by omega)
        · have en : n = (rKey k).length := by omega
          go_wp2
          refine ⟨⟨k + 1, by omega, by omega, by go_num, fun j h1 h2 => ?_⟩, by simp [intOf]; omega⟩
          by_cases e : j = k
          · subst e; subst en; exact HM.out
          · exact HN.out j h1 (by omega)
    · have e15 : k = 15 := by omega
      subst e15
      have HF := Lib.hid (rNone' hc HN.out)
      go_wp2
      go_ret3
      exact ⟨by rw [HF.out.1, HF.out.2.1, HF.out.2.2]; rfl, (Below.refl _ _).alloc (Nat.le_refl _) _⟩

end Go.Proofs.Ytdgbhbifeohfjaa
