/- The walks of step, Waits, Flush of the scanner. -/
import Derived.Test.YtdgbhbifeohfjaaEscR
namespace Go.Proofs.Ytdgbhbifeohfjaa
open Go.RowKit
attribute [local go_sem ↓] Go.wp_at_zero Go.wp_at_succ

theorem boxed_kept {w w' : World} {B : Nat} {t : TypeId} {v : Value} {S : Nat → Prop} (h : Boxed w B t v) (k : Kept w w' S) (hs : ¬ S B) : Boxed w' B t v := (k.block B h.lt hs).trans h
theorem boxed_below {w w' : World} {B n : Nat} {t : TypeId} {v : Value} (h : Boxed w B t v) (k : Below n w w') (hs : B < n) : Boxed w' B t v := (k.block B hs).trans h
theorem kept_set (w : World) (g : Nat) (u : Value) : Kept w (w.setCell ⟨g, 0, none⟩ u) (fun i => i = g) := (Kept.refl w _).setCell _ _ (fun _ => rfl)
def keyB : Ev → Bool
  | .key _ => true
  | _ => false

theorem str_one (W : World) (b : UInt8) : (convert 68 9 (.slice (some ⟨W.heap.size, 0, none⟩) 1 1)).run Try.prog (W.alloc (.cells #[.int .u8 (b.toNat : Int)] 5)) = .ok (.string ⟨#[b]⟩) (W.alloc (.cells #[.int .u8 (b.toNat : Int)] 5)) := by
  refine run_convert_bytes_back _ 68 9 5 _ 1 [b] Try.underlying68 Try.underlying5 Try.underlying9 (fun j hj => ?_)
  obtain rfl : j = 0 := by simpa using hj
  simp [Addr.add]
theorem str_two (W : World) (b c : UInt8) : (convert 68 9 (.slice (some ⟨W.heap.size, 0, none⟩) 2 2)).run Try.prog (W.alloc (.cells #[.int .u8 (b.toNat : Int), .int .u8 (c.toNat : Int)] 5)) = .ok (.string ⟨#[b, c]⟩) (W.alloc (.cells #[.int .u8 (b.toNat : Int), .int .u8 (c.toNat : Int)] 5)) := by
  refine run_convert_bytes_back _ 68 9 5 _ 2 [b, c] Try.underlying68 Try.underlying5 Try.underlying9 (fun j hj => ?_)
  have : j = 0 ∨ j = 1 := by simp at hj; omega
  rcases this with rfl | rfl <;> simp [Addr.add]

def StepPost (g n : Nat) (c : UInt8) (w : World) (e : Ending) (w' : World) : Prop :=
  e = .returned (.tuple #[.string ⟨(stp n c).2.emit.toArray⟩, .bool (keyB (stp n c).2)]) ∧ Boxed w' g 49 (.int .i64 ((stp n c).1 : Nat)) ∧ Kept w w' (fun i => i = g)

theorem str_five (W : World) : (convert 68 9 (.slice (some ⟨W.heap.size, 0, none⟩) 1 1)).run Try.prog (W.alloc (.cells #[.int .u8 5] 5)) = .ok (.string ⟨#[5]⟩) (W.alloc (.cells #[.int .u8 5] 5)) := str_one W 5
theorem str_five2 (W : World) (c : UInt8) : (convert 68 9 (.slice (some ⟨W.heap.size, 0, none⟩) 2 2)).run Try.prog (W.alloc (.cells #[.int .u8 5, .int .u8 (c.toNat : Int)] 5)) = .ok (.string ⟨#[5, c]⟩) (W.alloc (.cells #[.int .u8 5, .int .u8 (c.toNat : Int)] 5)) := str_two W 5 c

set_option maxHeartbeats 1000000 in
theorem step_any (g n : Nat) (c : UInt8) (w : World) (hn : n ≤ 2) (hg : Boxed w g 49 (.int .i64 (n : Int))) :
    Calls Try.prog 43 #[.pointer (some ⟨g, 0, none⟩), .int .u8 (c.toNat : Int)] w fun e w' => StepPost g n c w e w' := by
  have h1 := str_one
  have h5 := str_five
  have h25 := str_five2 (w.setCell ⟨g, 0, none⟩ (.int .i64 0)) c
  rw [show (w.setCell ⟨g, 0, none⟩ (.int .i64 0)).heap.size = w.heap.size by simp [World.setCell]] at h25
  have hc := hg.cell
  have hf := hg.frozen
  rcases (by omega : n = 0 ∨ n = 1 ∨ n = 2) with rfl | rfl | rfl
  · by_cases h : c = 5
    · subst h
      go_enter Try.func43, Try.ntmps43
      go_wp2
      go_ret2
      exact ⟨rfl, hg.set _, kept_set _ _ _⟩
    · have hd : ((c.toNat : Int) == 5) = false := by rw [beq_eq_false_iff_ne]; intro e; exact h (UInt8.toNat_inj.1 (by show _ = 5; omega))
      have hs : stp 0 c = (0, .one c) := by simp [stp, h]
      clear h
      go_enter Try.func43, Try.ntmps43
      go_wp2
      go_ret2
      unfold StepPost
      rw [hs]
      exact ⟨rfl, hg.alloc _, (Kept.refl w _).alloc _⟩
  · by_cases h9 : c = 99
    · subst h9
      go_enter Try.func43, Try.ntmps43
      go_wp2
      go_ret2
      exact ⟨rfl, hg.set _, kept_set _ _ _⟩
    · have hd9 : ((c.toNat : Int) == 99) = false := by rw [beq_eq_false_iff_ne]; intro e; exact h9 (UInt8.toNat_inj.1 (by show _ = 99; omega))
      by_cases h : c = 5
      · subst h
        go_enter Try.func43, Try.ntmps43
        go_wp2
        go_ret2
        exact ⟨rfl, hg.alloc _, (Kept.refl w _).alloc _⟩
      · have hd : ((c.toNat : Int) == 5) = false := by rw [beq_eq_false_iff_ne]; intro e; exact h (UInt8.toNat_inj.1 (by show _ = 5; omega))
        have hs : stp 1 c = (0, .two 5 c) := by simp [stp, h, h9]
        clear h h9
        go_enter Try.func43, Try.ntmps43
        go_wp2
        go_ret2
        unfold StepPost
        rw [hs]
        exact ⟨rfl, (hg.set _).alloc _, (kept_set _ _ _).alloc _⟩
  · go_enter Try.func43, Try.ntmps43
    go_wp2
    go_ret2
    exact ⟨rfl, hg.set _, kept_set _ _ _⟩

theorem waits_any (g : Nat) (v : Value) (w : World) (hg : Boxed w g 49 v) (n : Nat) (hv : v = .int .i64 (n : Int)) :
    Calls Try.prog 31 #[.pointer (some ⟨g, 0, none⟩)] w fun e w' => e = .returned (.int .i64 (n : Int)) ∧ w = w' := by
  subst hv
  have hc := hg.cell
  go_enter Try.func31, Try.ntmps31
  go_wp2
  go_ret
  exact ⟨rfl, rfl⟩
theorem waits_none (w : World) : Calls Try.prog 31 #[.pointer none] w fun e w' => e = .returned (.int .i64 0) ∧ w = w' := by
  go_enter Try.func31, Try.ntmps31
  go_wp2
  go_ret
  exact ⟨rfl, rfl⟩
theorem flush_none (w : World) : Calls Try.prog 32 #[.pointer none] w fun e w' => e = .returned (.string ⟨#[]⟩) ∧ w = w' := by
  go_enter Try.func32, Try.ntmps32
  go_wp2
  go_ret
  exact ⟨rfl, rfl⟩

theorem str_pre (W : World) (n : Nat) (hn : n ≤ 2) : (convert 68 9 (.slice (some ⟨W.heap.size, 0, none⟩) n 2)).run Try.prog (W.alloc (.cells #[.int .u8 5, .int .u8 99] 5)) = .ok (.string ⟨(pre n).toArray⟩) (W.alloc (.cells #[.int .u8 5, .int .u8 99] 5)) := by
  have hl : (pre n).length = n := by simp [pre]; omega
  have := run_convert_bytes_back (W.alloc (.cells #[.int .u8 5, .int .u8 99] 5)) 68 9 5 ⟨W.heap.size, 0, none⟩ 2 (pre n) Try.underlying68 Try.underlying5 Try.underlying9 (fun j hj => ?_)
  · rwa [hl] at this
  · rw [hl] at hj
    have : j = 0 ∨ j = 1 := by omega
    rcases this with rfl | rfl <;> simp [Addr.add, pre]
def FlushPost (g n : Nat) (w : World) (e : Ending) (w' : World) : Prop := e = .returned (.string ⟨(pre n).toArray⟩) ∧ Boxed w' g 49 (.int .i64 0) ∧ Kept w w' (fun i => i = g)
set_option maxHeartbeats 1000000 in
theorem flush_any (g n : Nat) (w : World) (hn : n ≤ 2) (hg : Boxed w g 49 (.int .i64 (n : Int))) :
    Calls Try.prog 32 #[.pointer (some ⟨g, 0, none⟩)] w fun e w' => FlushPost g n w e w' := by
  have hc := hg.cell
  have hf := hg.frozen
  have h1 := str_pre (w.setCell ⟨g, 0, none⟩ (.int .i64 0)) n hn
  rw [show (w.setCell ⟨g, 0, none⟩ (.int .i64 0)).heap.size = w.heap.size by simp [World.setCell]] at h1
  have hsz : ∀ W, (sizeOf (Try.prog.elem 68)).run Try.prog W = .ok 1 W := fun _ => by kernel_rfl
  have hsl : ∀ W : World, (Instr.slice 68 (.slice (some ⟨W.heap.size, 0, none⟩) 2 2) none (some (.int .i64 (n : Int))) none).run Try.prog (W.alloc (.cells #[.int .u8 5, .int .u8 99] 5)) = .ok (.slice (some ⟨W.heap.size, 0, none⟩) n 2) (W.alloc (.cells #[.int .u8 5, .int .u8 99] 5)) := fun W => by
    rcases (by omega : n = 0 ∨ n = 1 ∨ n = 2) with rfl | rfl | rfl <;> kernel_rfl
  go_enter Try.func32, Try.ntmps32
  go_wp2
  go_ret
  exact ⟨rfl, (hg.set _).alloc _, (kept_set _ _ _).alloc _⟩

end Go.Proofs.Ytdgbhbifeohfjaa
