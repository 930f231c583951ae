/- The walks of All and of its iterator. -/
import Derived.Test.YtgohdkjnmleblaaRolB
import Derived.RangeFuncNested
import Derived.RangeFuncBound
import Derived.RangeFuncCalls
import Derived.RangeFuncLeaves
import Derived.Shelf.Abstract
import Derived.Shelf.RegionOpen
import Derived.OwnWalkIn
import Derived.TacticsInMore
import Derived.LoopNIn
import Derived.LoopIn
import Derived.Maps.AppendAt
namespace Go.Proofs.Ytgohdkjnmleblaa
open Go.RowKit Go.Shelf
attribute [local go_sem] Oper.semAt_some

theorem all_any (p : Option Addr) (w : World) : Calls Try.prog 25 #[.pointer p] w fun e w' =>
    e = .returned (.func (.func 26) #[] #[.pointer (some ⟨w.heap.size, 0, none⟩)]) ∧ w' = w.alloc (.cells #[.pointer p] 24) := by
  have hmf : ∀ fn first cap w, (Instr.makeFunc fn first cap).run Try.prog w = .ok (.func fn first cap) w := fun _ _ _ _ => rfl
  go_enter Try.func25, Try.ntmps25
  go_wp2
  go_ret
  exact ⟨rfl, rfl⟩

/-- What the iterator wants kept. -/
def KpR (n₀ Bn : Nat) (W W' : World) : Prop := Below n₀ W W' ∧ W'.heap[Bn]? = W.heap[Bn]?
theorem KpR.trans {n₀ Bn : Nat} {A B C : World} (h : KpR n₀ Bn A B) (k : KpR n₀ Bn B C) : KpR n₀ Bn A C := ⟨h.1.trans k.1, k.2.trans h.2⟩

set_option maxRecDepth 100000 in
set_option maxHeartbeats 2000000 in
theorem all1_in (n : Nat) (hn1 : 1 ≤ n) (lp Bn n₀ g b most : Nat) (lv : Value) (l : List Sl) (hl : l.length ≤ 50000) (J Jx : List (Nat × ByteArray) → World → Prop)
    (hY : ∀ pre x W, J pre W → pre.length < l.length → YieldAt Fence.wide (n - 1) Try.prog lp #[.int .i64 (x.1 : Int), .string x.2] W fun e W' =>
      (e = .returned (.bool true) ∧ J (pre ++ [x]) W' ∧ KpR n₀ Bn W W') ∨ (e = .returned (.bool false) ∧ Jx (pre ++ [x]) W'))
    (W : World) (hBn : W.cell? ⟨Bn, 0, none⟩ = some (.pointer (some ⟨g, 0, none⟩))) (hr : RollAt W g b lv l most) (hgn : g < n₀) (hrn : ∀ i, lv.ownBlock = some i → i < n₀) (h0 : J [] W) :
    CallsIn Fence.wide n Try.prog 26 #[.func (.yield lp) #[] #[], .pointer (some ⟨Bn, 0, none⟩)] W fun e W' => (∃ v, e = .returned v) ∧
      ((∃ ys, ys = items l ∧ J ys W') ∨ (∃ pre, pre <+: items l ∧ Jx pre W')) := by
  refine callsIn_of_wp Try.func26 rfl trivial ?_ rfl
  simp only [Try.ntmps26, List.size_toArray, List.length_cons, List.length_nil, Nat.reduceAdd, Nat.reduceSub, Array.replicate_succ, Array.replicate_zero, List.push_toArray, List.append_toArray, List.nil_append, List.cons_append]
  obtain ⟨hw, ho⟩ := hr
  have hc0 := hw.cell 0
  obtain ⟨A, ca, rfl, hm, _, _, ha⟩ := own_form ho
  have HA := Lib.hid ha
  clear ho ha hw
  gi_wp2
  gi_loopw [3] (fun i wr => ∃ k : Nat, k ≤ l.length ∧ i = .int .i64 k ∧ J (items (l.take k)) wr ∧ KpR n₀ Bn W wr) (fun i _ => l.length - (intOf i).toNat)
  case atStart => exact ⟨0, by omega, rfl, h0, Below.refl _ _, rfl⟩
  case round =>
    obtain ⟨k, hk, rfl, hJk, hkp⟩ := hrel
    have hb1 : wr.cell? ⟨Bn, 0, none⟩ = some (.pointer (some ⟨g, 0, none⟩)) := (World.cell?_of_block (a := ⟨Bn, 0, none⟩) hkp.2).trans hBn
    have hc1 := (hkp.1.cell (p := ⟨g, 0, none⟩) hgn).trans hc0
    by_cases hlt : k < l.length
    · obtain ⟨g1, rfl, _, hg1, c1⟩ := HA.out k hlt (by omega)
      have hgg : g1 < n₀ := hrn g1 rfl
      obtain ⟨l1, l2, l3⟩ := slV_at l k hlt
      have d2 := ((hkp.1.cell (p := ⟨g1, k * 3 + 1, none⟩) hgg).trans (c1 (k * 3 + 1) (by omega))).trans l2
      have d3 := ((hkp.1.cell (p := ⟨g1, k * 3 + 2, none⟩) hgg).trans (c1 (k * 3 + 2) (by omega))).trans l3
      have g0 : (0 : Int) ≤ (k : Int) := by omega
      have g3 : (k : Int) < (l.length : Int) := by omega
      have HI := Lib.hid (items_snoc l k hlt)
      have hpl : (items (l.take k)).length < l.length := by rw [items_len]; have := many_le (l.take k); rw [List.length_take] at this; omega
      have hpf : (items (l.take (k + 1))) <+: items l := by
        conv => rhs; rw [← List.take_append_drop (k + 1) l]
        unfold items; rw [items_append]; exact List.prefix_append _ _
      clear c1 l1 l2 l3
      generalize items (l.take k) = pre at *
      cases hs : l[k] with
      | none =>
        rw [hs] at d2 d3 HI
        have HI2 : Hid (items (l.take (k + 1)) = pre) := by unfold Hid; rw [HI.out]; simp
        gi_wp2
        refine ⟨fun _ h => (by cases h), ?_⟩
        gi_wp2
        exact ⟨⟨k + 1, by omega, by go_num, by rw [HI2.out]; exact hJk, hkp⟩, by simp [intOf]; omega⟩
      | some q =>
        rw [hs] at d2 d3 HI
        have HI2 : Hid (items (l.take (k + 1)) = pre ++ [(k, q.2)]) := HI.out
        rw [HI2.out] at hpf
        replace d3 : wr.cell? ⟨g1, k * 3 + 2, none⟩ = some (.string q.2) := d3
        obtain ⟨fn, tmps, assign, body, hy, hR⟩ := hY pre (k, q.2) wr hJk hpl
        dsimp only at hy
        gi_wp2
        refine hR.mono ?_
        clear hR hy
        rintro e W3 (⟨rfl, hJ3, hk3⟩ | ⟨rfl, hJx3⟩)
        · gi_wp2
          exact ⟨⟨k + 1, by omega, by go_num, by rw [HI2.out]; exact hJ3, hkp.trans hk3⟩, by simp [intOf]; omega⟩
        · gi_wp2
          refine bodyPost_ret (results_none rfl _ _ _) rfl ?_
          exact ⟨⟨_, rfl⟩, .inr ⟨_, hpf, hJx3⟩⟩
    · have ek : k = l.length := by omega
      subst ek
      rw [List.take_length] at hJk
      gi_wp2
      go_end0
      exact ⟨⟨_, rfl⟩, .inl ⟨_, rfl, hJk⟩⟩

theorem all_stops (n : Nat) (hn1 : 1 ≤ n) (Bn n₀ g b most : Nat) (lv : Value) (l : List Sl) (hl : l.length ≤ 50000) (w : World) (hBl : Bn < w.heap.size) (hBn : w.cell? ⟨Bn, 0, none⟩ = some (.pointer (some ⟨g, 0, none⟩)))
    (hr : RollAt w g b lv l most) (hgn : g < n₀) (hrn : ∀ i, lv.ownBlock = some i → i < n₀) :
    SeqStopsK Fence.wide n Try.prog 26 #[.pointer (some ⟨Bn, 0, none⟩)] (fun x : Nat × ByteArray => #[.int .i64 (x.1 : Int), .string x.2]) (KpR n₀ Bn) (fun ys => ys = items l) (fun pre => pre <+: items l) l.length w := fun lp J Jx W hW _ _ hY h0 =>
  all1_in n hn1 lp Bn n₀ g b most lv l hl J Jx hY W ((hW.cell (p := ⟨Bn, 0, none⟩) hBl).trans hBn) (hr.below hW) hgn hrn h0

theorem kpr_t {n₀ Bn : Nat} {A B C : World} (h : KpR n₀ Bn A B) (k : KpR n₀ Bn B C) : KpR n₀ Bn A C := h.trans k
theorem kpr_b {n₀ Bn : Nat} {w : World} (hn : n₀ ≤ w.heap.size) (hB : Bn < w.heap.size) (W : World) (l : Nat) (o o' : Obj) (hl : w.heap.size ≤ l) (h : W.heap[l]? = some o) (h1 : o.isCells = false) (h2 : o.isWalk = false) : KpR n₀ Bn W (W.putObj l o') :=
  ⟨belowK_b hn W l o o' hl h h1 h2, World.putObj_heap_other (by omega)⟩

end Go.Proofs.Ytgohdkjnmleblaa
