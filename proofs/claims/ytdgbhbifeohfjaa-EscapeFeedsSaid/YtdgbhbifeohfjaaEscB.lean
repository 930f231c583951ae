/- The walks of pieces and of its iterator. -/
import Derived.Test.YtdgbhbifeohfjaaEscA
import Derived.RangeFuncBound
import Derived.RangeFuncCalls
import Derived.RangeFuncLeaves
import Derived.Shelf.Abstract
import Derived.Shelf.RegionOpen
import Derived.OwnWalkIn
import Derived.TacticsInMore
import Derived.LoopNIn
import Derived.LoopIn
import Derived.Maps.AppendAt
namespace Go.Proofs.Ytdgbhbifeohfjaa
open Go.RowKit Go.Shelf
attribute [local go_sem] Oper.semAt_some
attribute [local go_sem ↓] Go.wp_at_zero Go.wp_at_succ

def pieceV (s : List UInt8) (k : UInt8) (b : Bool) : Value := .agg #[.string ⟨s.toArray⟩, .int .u8 (k.toNat : Int), .bool b]
def kb : Ev → UInt8
  | .key c => c
  | _ => 0
def evV (e : Ev) : Value := pieceV e.emit (kb e) (keyB e)

theorem pieces_any (p : Option Addr) (s : ByteArray) (w : World) : Calls Try.prog 40 #[.pointer p, .string s] w fun e w' =>
    e = .returned (.func (.func 42) #[] #[.pointer (some ⟨w.heap.size + 1, 0, none⟩), .pointer (some ⟨w.heap.size, 0, none⟩)]) ∧ w' = (w.alloc (.cells #[.pointer p] 61)).alloc (.cells #[.string s] 9) := by
  have hmf : ∀ fn first cap w, (Instr.makeFunc fn first cap).run Try.prog w = .ok (.func fn first cap) w := fun _ _ _ _ => rfl
  go_enter Try.func40, Try.ntmps40
  go_wp2
  go_ret
  exact ⟨rfl, rfl⟩

theorem stp_key (n : Nat) (c : UInt8) (h : keyB (stp n c).2 = true) : (stp n c).2 = .key c := by
  revert h; unfold stp; split
  · intro _; rfl
  · split
    · split
      · intro h; cases h
      · split <;> (intro h; cases h)
    · split <;> (intro h; cases h)
theorem evV_plain {E : Ev} (h : keyB E = false) : evV E = pieceV E.emit 0 false := by cases E <;> first | rfl | cases h
theorem evs_snoc (n : Nat) (s : List UInt8) (c : UInt8) : evs n (s ++ [c]) = evs n s ++ [(stp (last n s) c).2] := by rw [evs_append]; rfl
theorem last_snoc (n : Nat) (s : List UInt8) (c : UInt8) : last n (s ++ [c]) = (stp (last n s) c).1 := by rw [last_append]; rfl
theorem take_snoc (s : ByteArray) (k : Nat) (h : k < s.size) : s.data.toList.take (k + 1) = s.data.toList.take k ++ [s[k]] := by
  rw [List.take_succ_eq_append_getElem (by simpa using h)]; rfl

/-- What the iterator wants a round to keep. -/
def KeepIt (g bs bp : Nat) (W W' : World) : Prop := W'.heap[g]? = W.heap[g]? ∧ W'.heap[bs]? = W.heap[bs]? ∧ W'.heap[bp]? = W.heap[bp]?

set_option maxRecDepth 100000 in
set_option maxHeartbeats 2000000 in
theorem iter_any (n : Nat) (hn1 : 1 ≤ n) (g bs bp l n0 : Nat) (hn0 : n0 ≤ 2) (s : ByteArray) (J : List Ev → World → Prop) (hgs : g ≠ bs) (hgp : g ≠ bp)
    (hJ : ∀ p A B, J p A → Kept A B (fun i => i = g) → J p B)
    (hY : ∀ p x W, J p W → p.length < s.size → YieldAt Fence.wide (n - 1) Try.prog l #[evV x] W fun e W' => e = .returned (.bool true) ∧ J (p ++ [x]) W' ∧ KeepIt g bs bp W W')
    (W : World) (hs : Boxed W bs 9 (.string s)) (hp : Boxed W bp 61 (.pointer (some ⟨g, 0, none⟩))) (hg : Boxed W g 49 (.int .i64 (n0 : Int))) (h0 : J [] W) (hsz : s.size ≤ 1000) :
    CallsIn Fence.wide n Try.prog 42 #[.func (.yield l) #[] #[], .pointer (some ⟨bs, 0, none⟩), .pointer (some ⟨bp, 0, none⟩)] W fun e W' => (∃ v, e = .returned v) ∧
      ∃ xs, (xs = evs n0 s.data.toList ∧ Boxed W' g 49 (.int .i64 (last n0 s.data.toList : Int))) ∧ J xs W' := by
  refine callsIn_of_wp Try.func42 rfl trivial ?_ rfl
  simp only [Try.ntmps42, List.size_toArray, List.length_cons, List.length_nil, Nat.reduceAdd, Nat.reduceSub, Array.replicate_succ, Array.replicate_zero, List.push_toArray, List.append_toArray, List.nil_append, List.cons_append]
  have hsc := hs.cell
  have hz : ((UInt8.toNat 0 : Nat) : Int) = 0 := rfl
  gi_wp2
  gi_loopw [10] (fun i wr => ∃ k : Nat, k ≤ s.size ∧ i = .int .i64 k ∧ J (evs n0 (s.data.toList.take k)) wr ∧ Boxed wr g 49 (.int .i64 (last n0 (s.data.toList.take k) : Int)) ∧ Boxed wr bs 9 (.string s) ∧ Boxed wr bp 61 (.pointer (some ⟨g, 0, none⟩)))
    (fun i _ => s.size - (intOf i).toNat)
  case atStart => exact ⟨0, by omega, rfl, h0, hg, hs, hp⟩
  case round =>
    clear hs hp hg h0 hsc
    obtain ⟨k, hk, rfl, hJk, hgk, hsk, hpk⟩ := hrel
    by_cases hlt : k < s.size
    · have hsc := hsk.cell
      have hpc := hpk.cell
      have hgc := hgk.cell
      have g0 : (0 : Int) ≤ (k : Int) := by omega
      have g3 : (k : Int) < (s.size : Int) := by omega
      have hgd : Boxed wr.drew g 49 (.int .i64 (last n0 (s.data.toList.take k) : Int)) := hgk
      have hsd : Boxed wr.drew bs 9 (.string s) := hsk
      have hpd : Boxed wr.drew bp 61 (.pointer (some ⟨g, 0, none⟩)) := hpk
      gi_wp2
      refine wpIn_wide.2 ?_
      go_region_held3 (fun X => X.cell? ⟨bp, 0, none⟩ = some (.pointer (some ⟨g, 0, none⟩)) ∧ X.cell? ⟨bs, 0, none⟩ = some (.string s)) (first | exact ⟨hpc, hsc⟩ | (constructor <;> assumption)) (first | (go_at_call 43; refine (step_any g _ s[k] wr.drew (last_le _ _ hn0) hgd).mono ?_; rintro e w3 ⟨rfl, hg3, hk3⟩; have hs3 := (boxed_kept hsd hk3 (Ne.symm hgs)); have hp3 := (boxed_kept hpd hk3 (Ne.symm hgp)); have hsc3 := hs3.cell; have hpc3 := hp3.cell))
      have hJ3 := hJ _ _ _ hJk (((Kept.refl wr (fun i => i = g)).drew).trans hk3 (fun _ _ h => h))
      have ev1 := evs_snoc n0 (s.data.toList.take k) s[k]
      have ev2 := last_snoc n0 (s.data.toList.take k) s[k]
      rw [← take_snoc s k hlt] at ev1 ev2
      rw [← ev2] at hg3
      have hky := stp_key (last n0 (s.data.toList.take k)) s[k]
      have hpl : (evs n0 (s.data.toList.take k)).length < s.size := by rw [evs_length, List.length_take]; omega
      generalize (stp (last n0 (s.data.toList.take k)) s[k]).2 = E at *
      generalize hm : last n0 (s.data.toList.take (k + 1)) = m' at *
      have EV2 := Lib.hid hm
      clear hm
      generalize evs n0 (s.data.toList.take k) = pre at *
      clear hk3 hgd hsd hpd hgk hsk hpk hgc hsc hpc
      have EV1 := Lib.hid ev1
      clear ev1 ev2
      have hEV : Hid (evV E = if keyB E then pieceV [] s[k] true else pieceV E.emit 0 false) := by
        unfold Hid
        split
        · rename_i h; rw [hky h]; rfl
        · rename_i h; exact evV_plain (by simpa using h)
      have hEA : keyB E = true → E.emit.toArray = #[] := fun h => by rw [hky h]; rfl
      clear hky
      generalize hL : E.emit = L at *
      generalize hB : keyB E = B at *
      clear hL hB
      cases B with
      | true =>
        have hE := hEA rfl
        clear hEA
        generalize L.toArray = A at *
        subst hE
        have hsc4 := (hs3.alloc (.cells #[.string ⟨#[]⟩, .int .u8 0, .bool false] 58)).cell
        have hw4 := (Kept.refl w3 (fun i => i = g)).alloc (.cells #[.string ⟨#[]⟩, .int .u8 (s[k].toNat : Int), .bool true] 58)
        obtain ⟨fn, tmps, assign, body, hy, hR⟩ := hY pre E _ (hJ _ _ _ hJ3 hw4) hpl
        have hs4 := hs3.alloc (.cells #[.string ⟨#[]⟩, .int .u8 (s[k].toNat : Int), .bool true] 58)
        have hp4 := hp3.alloc (.cells #[.string ⟨#[]⟩, .int .u8 (s[k].toNat : Int), .bool true] 58)
        have hg4 := hg3.alloc (.cells #[.string ⟨#[]⟩, .int .u8 (s[k].toNat : Int), .bool true] 58)
        rw [hEV.out] at hy
        simp only [if_true, pieceV, List.toArray] at hy
        clear hw4 hEV hJ3 hJk hg3
        gi_wp2
        refine hR.mono ?_
        clear hR hy
        rintro e W4 ⟨rfl, hJ4, hk4⟩
        have hs5 : Boxed W4 bs 9 (.string s) := hk4.2.1.trans hs4
        have hp5 : Boxed W4 bp 61 (.pointer (some ⟨g, 0, none⟩)) := hk4.2.2.trans hp4
        have hg5 : Boxed W4 g 49 (.int .i64 (m' : Int)) := hk4.1.trans hg4
        clear hs3 hp3 hs4 hp4 hg4 hsc3 hpc3
        gi_wp2
        exact ⟨⟨k + 1, by omega, by go_num, by rw [EV1.out]; exact hJ4, by rw [EV2.out]; exact hg5, hs5, hp5⟩, by simp [intOf]; omega⟩
      | false =>
        clear hEA
        have hw4 := (Kept.refl w3 (fun i => i = g)).alloc (.cells #[.string ⟨L.toArray⟩, .int .u8 0, .bool false] 58)
        obtain ⟨fn, tmps, assign, body, hy, hR⟩ := hY pre E _ (hJ _ _ _ hJ3 hw4) hpl
        have hs4 := hs3.alloc (.cells #[.string ⟨L.toArray⟩, .int .u8 0, .bool false] 58)
        have hp4 := hp3.alloc (.cells #[.string ⟨L.toArray⟩, .int .u8 0, .bool false] 58)
        have hg4 := hg3.alloc (.cells #[.string ⟨L.toArray⟩, .int .u8 0, .bool false] 58)
        rw [hEV.out] at hy
        simp only [Bool.false_eq_true, if_false, pieceV, hz] at hy
        clear hw4 hEV hJ3 hJk hg3
        gi_wp2
        refine hR.mono ?_
        clear hR hy
        rintro e W4 ⟨rfl, hJ4, hk4⟩
        have hs5 : Boxed W4 bs 9 (.string s) := hk4.2.1.trans hs4
        have hp5 : Boxed W4 bp 61 (.pointer (some ⟨g, 0, none⟩)) := hk4.2.2.trans hp4
        have hg5 : Boxed W4 g 49 (.int .i64 (m' : Int)) := hk4.1.trans hg4
        clear hs3 hp3 hs4 hp4 hg4 hsc3 hpc3
        gi_wp2
        exact ⟨⟨k + 1, by omega, by go_num, by rw [EV1.out]; exact hJ4, by rw [EV2.out]; exact hg5, hs5, hp5⟩, by simp [intOf]; omega⟩
    · have ek : k = s.size := by omega
      subst ek
      rw [List.take_of_length_le (by simp)] at hJk hgk
      gi_wp2
      go_end0
      exact ⟨⟨_, rfl⟩, _, ⟨rfl, hgk⟩, hJk⟩

end Go.Proofs.Ytdgbhbifeohfjaa
