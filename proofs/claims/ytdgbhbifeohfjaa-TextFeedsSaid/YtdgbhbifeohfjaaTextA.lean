/- Walks of the framer's small methods. -/
import Derived.Test.YtdgbhbifeohfjaaMem
import Derived.Test.YtdgbhbifeohfjaaTextP
namespace Go.Proofs.Ytdgbhbifeohfjaa
open Go.RowKit

set_option maxHeartbeats 400000 in
theorem right_any (c : UInt8) (w : World) : Calls Try.prog 41 #[.int .u8 (c.toNat : Int)] w fun e w' => e = .returned (.bool (rightB c)) ∧ w = w' := by
  have e9 : ((c.toNat : Int) == 9) = (c == 9) := by
    rw [Bool.eq_iff_iff, beq_iff_eq, beq_iff_eq, ← UInt8.toNat_inj]
    show (c.toNat : Int) = 9 ↔ c.toNat = 9
    omega
  have E9 := Lib.hid e9
  clear e9
  have HR := Lib.hid (show rightB c = ((decide (32 ≤ c.toNat) && decide (c.toNat ≤ 126)) || ((c.toNat : Int) == 9)) by unfold rightB; rw [E9.out])
  clear E9
  generalize rightB c = r at *
  generalize hn : c.toNat = n at *
  have hb : n ≤ 255 := by have := UInt8.toNat_lt c; omega
  clear hn
  by_cases h1 : 32 ≤ n
  · by_cases h2 : n ≤ 126
    · have hr : Hid (r = true) := by unfold Hid; rw [HR.out, decide_eq_true h1, decide_eq_true h2]; rfl
      go_enter Try.func41, Try.ntmps41
      go_wp2
      go_ret
      exact ⟨by rw [hr.out]; rfl, rfl⟩
    · by_cases h3 : ((n : Int) == 9) = true
      · have hr : Hid (r = true) := by unfold Hid; rw [HR.out, h3, Bool.or_true]
        go_enter Try.func41, Try.ntmps41
        go_wp2
        go_ret
        exact ⟨by rw [hr.out]; rfl, rfl⟩
      · have h3' : ((n : Int) == 9) = false := by simpa using h3
        have hr : Hid (r = false) := by unfold Hid; rw [HR.out, h3', decide_eq_false h2]; simp
        have h4 : decide ((n : Int) ≤ 126) = false := by simp; omega
        clear h3
        go_enter Try.func41, Try.ntmps41
        go_wp2
        go_ret
        exact ⟨by rw [hr.out]; rfl, rfl⟩
  · by_cases h3 : ((n : Int) == 9) = true
    · have hr : Hid (r = true) := by unfold Hid; rw [HR.out, h3, Bool.or_true]
      go_enter Try.func41, Try.ntmps41
      go_wp2
      go_ret
      exact ⟨by rw [hr.out]; rfl, rfl⟩
    · have h3' : ((n : Int) == 9) = false := by simpa using h3
      have hr : Hid (r = false) := by unfold Hid; rw [HR.out, h3', decide_eq_false h1]; simp
      clear h3
      go_enter Try.func41, Try.ntmps41
      go_wp2
      go_ret
      exact ⟨by rw [hr.out]; rfl, rfl⟩

/-- A framer at block f, whose row of bytes is bv: what waits is p. -/
def FrAt (w : World) (base f : Nat) (bv : Value) (m : Nat) (p : List UInt8) : Prop :=
  Whole w f 72 #[bv, .bool (heldO m p), .int .i64 (m : Int)] ∧ w.ownsRow base 5 1 bv (heldL m p).length (bytesV (heldL m p))
/-- The row bv' is the row bv, or a new one. -/
def NewRow (w : World) (bv bv' : Value) : Prop := ∀ i, bv'.ownBlock = some i → bv.ownBlock = some i ∨ w.heap.size ≤ i
def AddPost (w : World) (base f : Nat) (bv : Value) (m : Nat) (p : List UInt8) (c : UInt8) (e : Ending) (w' : World) : Prop :=
  e = .returned (.tuple #[]) ∧ ∃ bv', FrAt w' base f bv' m (p ++ [c]) ∧ Kept w w' (fun k => k = f ∨ bv.ownBlock = some k) ∧ NewRow w bv bv'

set_option maxHeartbeats 1000000 in
theorem add_any (base f m : Nat) (bv : Value) (p : List UInt8) (c : UInt8) (w : World) (hm : m ≤ 4096) (hf : FrAt w base f bv m p) (hbase : base ≤ w.heap.size) :
    Calls Try.prog 37 #[.pointer (some ⟨f, 0, none⟩), .int .u8 (c.toNat : Int), .int .i64 (m : Int)] w (AddPost w base f bv m p c) := by
  obtain ⟨i0, hi, hz0, hz1, hz2⟩ := info_parts Try.info5
  obtain ⟨hw, ho⟩ := hf
  obtain ⟨A, ca, rfl, hnm, _, _, _⟩ := own_form ho
  have hc0 := hw.cell 0
  have hc1 := hw.cell 1
  have hf0 := hw.frozen 0
  have hf1 := hw.frozen 1
  simp only [List.getElem?_toArray, List.getElem?_cons_zero, List.getElem?_cons_succ] at hc0 hc1
  have hlen := held_length m p
  have hle : (heldL m p).length ≤ 4097 := by omega
  clear hlen
  by_cases h : m < (heldL m p).length
  · have HF := Lib.hid (held_full (c := c) h)
    go_enter Try.func37, Try.ntmps37
    go_wp2
    go_end0
    refine ⟨rfl, .slice A (heldL m p).length ca, ⟨?_, ?_⟩, (Kept.refl _ _).setCell _ _ (fun _ => Or.inl rfl), fun i hi => Or.inl hi⟩
    · rw [HF.out.2]; exact hw.setCell 1 _
    · rw [HF.out.1]; exact ownsRow_setCell_other ho (hw.ne_own ho (by decide)) _
  · have HF := Lib.hid (held_more (c := c) (show (heldL m p).length ≤ m by omega))
    go_enter Try.func37, Try.ntmps37
    go_wp2_with (at_builtin; refine wpList_append_lies _ rfl _ _ 68 rfl base 5 i0 (.int .u8 0) 1 1 Try.underlying68 hi hz0 hz1 hz2 rfl (by decide) _ _ _ rfl (ho.alloc _) ⟨_, 0, none⟩ 1 1 [.int .u8 (c.toNat : Int)] rfl rfl ?c1 ?c2 (by decide) ?c3 ?c4 ?c5 _ rfl ?_)
    case c1 => exact cell_one_new _ _ _
    case c2 => intro u hu; simp at hu; subst hu; rfl
    case c3 => unfold maxLen; omega
    case c4 => omega
    case c5 => simp; omega
    intro g cap w2 hown2 hgrow hat hlt
    have hwa := hw.alloc (.cells #[.int .u8 (c.toNat : Int)] 5)
    have hw2 := hwa.grown hgrow (hwa.ne_own (ho.alloc _) (by decide))
    have hc2 := hw2.cell 0
    have hf2 := hw2.frozen 0
    simp only [List.getElem?_toArray, List.getElem?_cons_zero] at hc2
    have hk2 : Kept w w2 (fun k => k = f ∨ (Value.slice A (heldL m p).length ca).ownBlock = some k) := ((Kept.refl _ _).alloc _).grown hgrow (fun i hi _ => Or.inr hi)
    have hne2 := hw2.ne_own hown2 (by decide)
    clear hc0 hc1 hf0 hf1 hgrow
    go_wp2
    go_end0
    refine ⟨rfl, .slice (some ⟨g, 0, none⟩) ((heldL m p).length + 1) cap, ⟨?_, ?_⟩, hk2.setCell _ _ (fun _ => Or.inl rfl), fun i hi => ?_⟩
    · rw [HF.out.2]; exact hw2.setCell 0 _
    · rw [HF.out.1, bytesV_append, List.length_append]
      exact ownsRow_setCell_other hown2 hne2 _
    · rcases hat with hat | hat
      · left; rw [hat]; exact hi
      · right
        have : g = i := by simpa [Value.ownBlock] using hi
        rw [← this, hat]; simp

end Go.Proofs.Ytdgbhbifeohfjaa
