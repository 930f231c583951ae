/- The walk of the law EscapeFeeds. -/
import Derived.Test.YtdgbhbifeohfjaaEscH
import Derived.Laws.AppendOwnNone
namespace Go.Proofs.Ytdgbhbifeohfjaa
open Go.RowKit

/-- Strings that came in. -/
def StrsIn (w : World) (A : Option Addr) (n : Nat) (ss : List ByteArray) : Prop :=
  ∀ j, j < n → ∃ ad, A = some ad ∧ ad.block < w.heap.size ∧ w.cell? (ad.add j) = some (.string (ss.getD j ByteArray.empty)) ∧ (ss.getD j ByteArray.empty).size ≤ maxLen
theorem add_block (a : Addr) (j : Nat) : (a.add j).block = a.block := by unfold Addr.add; split <;> rfl

/-- 'append(v, x...)' where both are rows of the call's own, either nil or not. -/
theorem wpList_append_rows {P : Program} {w : World} {ops : Array Oper} {rest : List Oper} {o : Oper} {a : Act} {Q : Exit → Act → World → Prop} (hgd : o.guard = none) (s x : Operand) (t : TypeId)
    (ho : o.op = .call { callee := .builtin .append, args := #[s, x], argTypes := #[t, t] })
    (base : Nat) (e : TypeId) (i : TypeInfo) (z : Value) (size bytes : Nat) (ht : P.underlying t = some (.slice e)) (hi : P.info? e = some i) (hz : i.zero = some z)
    (hsize : i.size = size) (hby : i.bytes = bytes) (hzs : z.cells.size = size) (hsz : 0 < size)
    (v : Value) (n : Nat) (xs : List Value) (hs : a.eval s = v) (hown : w.ownsRow base e size v n xs)
    (b2 : Nat) (xv : Value) (m : Nat) (news : List Value) (hx : a.eval x = xv) (hown2 : w.ownsRow b2 e size xv m news) (h1 : ∀ u ∈ news, u.oneCell' = true)
    (h63 : n + m ≤ maxLen) (hbytes : (n + m) * bytes ≤ 140737488355328) (hbase : base ≤ w.heap.size)
    (h : ∀ v' w', w'.ownsRow base e size v' (n + m) (xs ++ news) → w.grownBy w' v.ownBlock → wpList P ops Q rest (a.put o.dst v') w') : wpList P ops Q (o :: rest) a w := by
  have hl := hown2.1
  rcases hown2.2 with ⟨rfl, rfl⟩ | ⟨g, cap, cur, rfl, _, hh, _⟩
  · have hn : news = [] := List.eq_nil_of_length_eq_zero (by rw [hl]; omega)
    subst hn
    refine wpList_append_own_none hgd s x t ho base e i size ht hi v n xs hs hown hx ?_
    exact h v w (by rw [List.append_nil]; exact hown) ⟨rfl, rfl, rfl, Nat.le_refl _, fun _ _ _ => rfl⟩
  · refine wpList_append_own w hgd s x t ho base e i z size bytes ht hi hz hsize hby hzs hsz v n xs hs hown ⟨g, 0, none⟩ m cap news hx hl (fun j u hu => ?_) h1 h63 hbytes hbase (fun v' w' a1 a2 _ => h v' w' a1 a2)
    have hj : j < m * size := by
      rw [← hl]
      rcases Nat.lt_or_ge j news.length with h | h
      · exact h
      · rw [List.getElem?_eq_none h] at hu; cases hu
    have e1 : (⟨g, 0, none⟩ : Addr).add j = ⟨g, j, none⟩ := by unfold Addr.add; split <;> simp_all
    rw [e1, World.ownsRow.cellAt (w := w) (g := g) (cap := cap) hown2 j hj]; exact hu
theorem strsIn_of {W : World} {x : Addr} {zs : List ByteArray} {len : Nat} (hl : len ≤ zs.length) (hcell : ∀ i, i < zs.length → W.cell? (x.add i) = some (.string (zs.getD i ByteArray.empty))) (hw : ∀ s ∈ zs, s.size ≤ maxLen) : StrsIn W (some x) len zs := fun j hj => by
  have hc := hcell j (by omega)
  refine ⟨x, rfl, ?_, hc, hw _ ?_⟩
  · have := World.block_lt_of_cell? W _ hc
    rwa [add_block] at this
  · rw [List.getD_eq_getElem?_getD, List.getElem?_eq_getElem (by omega)]
    exact List.getElem_mem _

theorem pcsV_cells (o : List Pc) : ∀ u ∈ pcsV o, u.oneCell' = true := by
  intro u hu
  unfold pcsV at hu
  rw [List.mem_flatMap] at hu
  obtain ⟨p, _, hp⟩ := hu
  exact cells_one p u hp
/-- All that was told so far. -/
structure Got (S : List UInt8) (G : List Pc) : Prop where
  full : ∀ p ∈ G, p.full
  toks : G.flatMap Pc.toks = toks 0 S
theorem Got.nil : Got [] [] := ⟨by simp, rfl⟩
theorem Got.more {S : List UInt8} {G : List Pc} (h : Got S G) (T : List UInt8) : Got (S ++ T) (G ++ fed (last 0 S) T) := by
  obtain ⟨h1, h2⟩ := joined_more T h.full h.toks
  exact ⟨h1, h2⟩
theorem Got.joined {S : List UInt8} {G : List Pc} (h : Got S G) : joined G = (tell S).1 := by rw [joined_eq h.full, h.toks]; rfl
theorem Got.data {S : List UInt8} {G : List Pc} (h : Got S G) : (dataOf G).length ≤ S.length := by
  have := toks_count S 0 (by omega)
  rw [dataOf_toks, h.toks]; omega
theorem fed_data_le (n : Nat) (s : List UInt8) (hn : n ≤ 2) : (dataOf (fed n s)).length ≤ n + s.length := by
  have := toks_count s n hn
  rw [fed_data]; omega

set_option maxHeartbeats 400000 in
theorem feeds26_many (A : Option Addr) (n cap : Nat) (w : World) (hn : n ≤ maxLen) (h : 30 < n) :
    Calls Try.prog 8 #[.slice A n cap] w fun e w' => e = .returned (.bool true) ∧ Below w.heap.size w w' := by
  unfold maxLen at hn
  go_enter Try.func8, Try.ntmps8
  go_wp2_with (go_at_call 26; refine (works26 _).mono ?_; rintro e w1 ⟨rfl, hb⟩)
  go_ret
  exact ⟨rfl, hb⟩

set_option maxRecDepth 100000 in
set_option maxHeartbeats 4000000 in
theorem feeds26_few (A : Option Addr) (n cap : Nat) (ss : List ByteArray) (w : World) (h : n ≤ 30) (hin : StrsIn w A n ss) :
    Calls Try.prog 8 #[.slice A n cap] w fun e w' => e = .returned (.bool true) ∧ Below w.heap.size w w' := by
  have HIN := Lib.hid hin
  clear hin
  obtain ⟨i8, hi8, hz8, hs8, hb8⟩ := info_parts Try.info58
  go_enter Try.func8, Try.ntmps8
  go_wp2
  have hg0 := Boxed.new w 49 (.int .i64 0)
  have hb0 := (Below.refl w.heap.size w).alloc (Nat.le_refl _) (.cells #[.int .i64 0] 49)
  have hs0 : (w.alloc (.cells #[.int .i64 0] 49)).heap.size = w.heap.size + 1 := by simp
  generalize w.alloc (.cells #[.int .i64 0] 49) = w0 at *
  go_loopw [4, 5, 6, 7, 8, 9] (fun all got i _ _ _ wr => ∃ (k : Nat) (S : ByteArray) (G : List Pc), k ≤ n ∧ i = .int .i64 k ∧ all = .string S ∧ S.size ≤ 100 * k ∧ G.length ≤ 300 * k ∧ Hid (Got S.data.toList G) ∧ wr.ownsRow (w.heap.size + 1) 58 3 got G.length (pcsV G) ∧ Boxed wr w.heap.size 49 (.int .i64 (last 0 S.data.toList : Int)) ∧ w.heap.size + 1 ≤ wr.heap.size ∧ Below w.heap.size w wr) (fun _ _ i _ _ _ _ => n - (intOf i).toNat)
  case atStart => exact ⟨0, ⟨#[]⟩, [], by omega, rfl, rfl, by simp [ByteArray.size], by simp, Got.nil, World.ownsRow_nil _ _ _ _, hg0, by omega, hb0⟩
  case round =>
    obtain ⟨k, S, G, hk, rfl, rfl, hS, hG, HG, hgot, hg, hsz, hb⟩ := hrel
    by_cases hlt : k < n
    · obtain ⟨ad, rfl, had, hcell, _⟩ := HIN.out k hlt
      have hcell' : wr.cell? (ad.add k) = some (.string (ss.getD k ByteArray.empty)) := (hb.cell (p := ad.add k) (by rw [add_block]; exact had)).trans hcell
      generalize ss.getD k ByteArray.empty = T at *
      clear hcell
      by_cases h100 : 100 < T.size
      · go_wp2_with (go_at_call 26; refine (works26 _).mono ?_; rintro e w9 ⟨rfl, hb9⟩)
        go_ret
        exact ⟨rfl, below_then hb hb9⟩
      · have hM := last_le 0 S.data.toList (by omega)
        have HU := Lib.hid (show (S ++ T).data.toList = S.data.toList ++ T.data.toList by rw [ByteArray.data_append, Array.toList_append])
        have HG2 : Hid (Got (S ++ T).data.toList (G ++ fed (last 0 S.data.toList) T.data.toList)) := by unfold Hid; rw [HU.out]; exact HG.out.more _
        have hU : (S ++ T).size ≤ 100 * (k + 1) := by rw [ByteArray.size_append]; omega
        go_wp2_with fail
        refine (feed_any w.heap.size _ T wr hM hg (by omega)).mono ?_
        rintro e w1 ⟨v, rfl, rv, hg1, hk1⟩
        have hF1 := fed_length (last 0 S.data.toList) T.data.toList
        have hF2 := fed_data_le (last 0 S.data.toList) T.data.toList hM
        have hTl : T.data.toList.length = T.size := by simp
        have hUl : (S ++ T).data.toList.length = (S ++ T).size := by simp
        have HJ := Lib.hid (joined_fed (last 0 S.data.toList) T.data.toList)
        have HL := Lib.hid (show last 0 (S ++ T).data.toList = last (last 0 S.data.toList) T.data.toList by rw [HU.out, last_append])
        have hD := HG2.out.data
        have HT := Lib.hid HG2.out.joined
        rw [← HL.out] at hg1
        generalize fed (last 0 S.data.toList) T.data.toList = F at *
        generalize S ++ T = U at *
        rw [hTl] at hF1 hF2
        rw [hUl] at hD
        replace hF2 : (dataOf F).length ≤ 102 := by omega
        have hgot1 := own_kept hgot hk1 (Nat.lt_succ_self _)
        have hb1 := ge_below hb hk1 (Nat.le_refl _)
        have hz1 : w.heap.size + 1 ≤ w1.heap.size := Nat.le_trans hsz hk1.size
        have hne : ((last 0 U.data.toList : Int) != ((tell U.data.toList).2 : Int)) = false := by simp [tell]
        clear hg hgot hb hk1 HU HL hTl hUl hM hS hcell' HG
        go_wp2_with fail
        refine (joinP wr.heap.size F.length v F w1 rfl (by omega) (by omega) rv).mono ?_
        rintro e w2 ⟨v2, rfl, rv2, hb2⟩
        rw [HJ.out] at rv2
        have rv' := own_below rv hb2
        have hgot2 := own_below hgot1 hb2
        have hg2 := boxed_below hg1 hb2 hg1.lt
        have hbb2 := below_then hb1 hb2
        have hz2 := Nat.le_trans hz1 hb2.size
        clear rv hgot1 hg1 hb1 hb2 hz1
        go_wp2_with fail
        refine (sameP _ _ F.length v v2 F w2 rfl rv' rv2).mono ?_
        rintro e w3 ⟨rfl, hb3⟩
        have rv3 := own_below rv' hb3
        have hgot3 := own_below hgot2 hb3
        have hg3 := boxed_below hg2 hb3 hg2.lt
        have hbb3 := below_then hbb2 hb3
        have hz3 := Nat.le_trans hz2 hb3.size
        clear rv' rv2 hgot2 hg2 hbb2 hb3 hz2
        go_wp2_with (at_builtin; refine wpList_append_rows rfl _ _ 50 rfl (w.heap.size + 1) 58 i8 (.agg #[.string ⟨#[]⟩, .int .u8 0, .bool false]) 3 24 Try.underlying50 hi8 hz8 hs8 hb8 rfl (by decide) _ _ _ rfl hgot3 _ _ _ _ rfl rv3 (pcsV_cells _) (by unfold maxLen; omega) (by omega) hz3 ?_)
        intro v4 w4 hgot4 hgrow
        have hg4 := hg3.kept hgrow (hg3.not_row (by decide) hgot3)
        have hbb4 : Below w.heap.size w w4 := hbb3.grown hgrow (by omega) (fun i hi => by have := (hgot3.lt i hi).1; omega)
        have hz4 := Nat.le_trans hz3 hgrow.size
        rw [← pcsV_append, ← List.length_append] at hgot4
        have hG2 : (G ++ F).length ≤ 300 * (k + 1) := by rw [List.length_append]; omega
        clear hgot3 rv3 hg3 hbb3 hz3 hgrow hF1 hF2 hG
        generalize G ++ F = G2 at *
        go_wp2_with fail
        refine (told_any U w4 (by omega)).mono ?_
        rintro e w5 ⟨v5, rfl, r5, hb5⟩
        have hgot5 := own_below hgot4 hb5
        have hg5 := boxed_below hg4 hb5 hg4.lt
        have hbb5 := below_then hbb4 hb5
        have hz5 := Nat.le_trans hz4 hb5.size
        clear hgot4 hg4 hbb4 hb5 hz4
        go_wp2_with fail
        refine (joinP (w.heap.size + 1) G2.length v4 G2 w5 rfl (by omega) (by omega) hgot5).mono ?_
        rintro e w6 ⟨v6, rfl, r6, hb6⟩
        rw [HT.out] at r6
        have r56 := own_below r5 hb6
        have hgot6 := own_below hgot5 hb6
        have hg6 := boxed_below hg5 hb6 hg5.lt
        have hbb6 := below_then hbb5 hb6
        have hz6 := Nat.le_trans hz5 hb6.size
        clear r5 hgot5 hg5 hbb5 hb6 hz5
        go_wp2_with fail
        refine (sameP _ _ _ v6 v5 (tell U.data.toList).1 w6 rfl r6 r56).mono ?_
        rintro e w7 ⟨rfl, hb7⟩
        have hgot7 := own_below hgot6 hb7
        have hg7 := boxed_below hg6 hb7 hg6.lt
        have hbb7 := below_then hbb6 hb7
        have hz7 := Nat.le_trans hz6 hb7.size
        clear r6 r56 hgot6 hg6 hbb6 hb7 hz6
        go_wp2_with fail
        refine (waits_any w.heap.size _ w7 hg7 _ rfl).mono ?_; rintro e w' ⟨rfl, rfl⟩
        go_wp2_with fail
        exact ⟨⟨k + 1, U, G2, by omega, by go_num, rfl, hU, hG2, HG2, hgot7, hg7, hz7, hbb7⟩, by simp [intOf]; omega⟩
    · go_wp2_with (go_at_call 26; refine (works26 _).mono ?_; rintro e w9 ⟨rfl, hb9⟩)
      go_ret
      exact ⟨rfl, below_then hb hb9⟩

theorem feeds26_all (A : Option Addr) (n cap : Nat) (ss : List ByteArray) (w : World) (hn : n ≤ maxLen) (hin : StrsIn w A n ss) :
    Calls Try.prog 8 #[.slice A n cap] w fun e w' => e = .returned (.bool true) ∧ Below w.heap.size w w' := by
  by_cases h : 30 < n
  · exact feeds26_many A n cap w hn h
  · exact feeds26_few A n cap ss w (by omega) hin

end Go.Proofs.Ytdgbhbifeohfjaa
