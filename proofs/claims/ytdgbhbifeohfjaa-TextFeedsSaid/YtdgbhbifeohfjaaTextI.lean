/- The walk of the law TextFeeds. -/
import Derived.Test.YtdgbhbifeohfjaaTextH
import Derived.Laws.AppendOwnNone
namespace Go.Proofs.Ytdgbhbifeohfjaa
open Go.RowKit

/-- Strings that came in. -/
def StrsIn (w : World) (A : Option Addr) (n : Nat) (ss : List ByteArray) : Prop :=
  ∀ j, j < n → ∃ ad, A = some ad ∧ ad.block < w.heap.size ∧ w.cell? (ad.add j) = some (.string (ss.getD j ByteArray.empty)) ∧ (ss.getD j ByteArray.empty).size ≤ maxLen
theorem add_block (a : Addr) (j : Nat) : (a.add j).block = a.block := by unfold Addr.add; split <;> rfl

/-- 'append(v, x...)' where both are rows of the call's own, either nil or not. -/
theorem wpList_append_rows {P : Program} {w : World} {ops : Array Oper} {rest : List Oper} {o : Oper} {a : Act} {Q : Exit → Act → World → Prop} (hgd : o.guard = none) (s x : Operand) (t : TypeId)
    (ho : o.op = .call { callee := .builtin .append, args := #[s, x], argTypes := #[t, t] })
    (base : Nat) (e : TypeId) (i : TypeInfo) (z : Value) (size bytes : Nat) (ht : P.underlying t = some (.slice e)) (hi : P.info? e = some i) (hz : i.zero = some z)
    (hsize : i.size = size) (hby : i.bytes = bytes) (hzs : z.cells.size = size) (hsz : 0 < size)
    (v : Value) (n : Nat) (xs : List Value) (hs : a.eval s = v) (hown : w.ownsRow base e size v n xs)
    (b2 : Nat) (xv : Value) (m : Nat) (news : List Value) (hx : a.eval x = xv) (hown2 : w.ownsRow b2 e size xv m news) (h1 : ∀ u ∈ news, u.oneCell' = true)
    (h63 : n + m ≤ maxLen) (hbytes : (n + m) * bytes ≤ 140737488355328) (hbase : base ≤ w.heap.size)
    (h : ∀ v' w', w'.ownsRow base e size v' (n + m) (xs ++ news) → w.grownBy w' v.ownBlock → wpList P ops Q rest (a.put o.dst v') w') : wpList P ops Q (o :: rest) a w := by
  have hl := hown2.1
  rcases hown2.2 with ⟨rfl, rfl⟩ | ⟨g, cap, cur, rfl, _, hh, _⟩
  · have hn : news = [] := List.eq_nil_of_length_eq_zero (by rw [hl]; omega)
    subst hn
    refine wpList_append_own_none hgd s x t ho base e i size ht hi v n xs hs hown hx ?_
    exact h v w (by rw [List.append_nil]; exact hown) ⟨rfl, rfl, rfl, Nat.le_refl _, fun _ _ _ => rfl⟩
  · refine wpList_append_own w hgd s x t ho base e i z size bytes ht hi hz hsize hby hzs hsz v n xs hs hown ⟨g, 0, none⟩ m cap news hx hl (fun j u hu => ?_) h1 h63 hbytes hbase (fun v' w' a1 a2 _ => h v' w' a1 a2)
    have hj : j < m * size := by
      rw [← hl]
      rcases Nat.lt_or_ge j news.length with h | h
      · exact h
      · rw [List.getElem?_eq_none h] at hu; cases hu
    have e1 : (⟨g, 0, none⟩ : Addr).add j = ⟨g, j, none⟩ := by unfold Addr.add; split <;> simp_all
    rw [e1, World.ownsRow.cellAt (w := w) (g := g) (cap := cap) hown2 j hj]; exact hu
theorem linesV_cells (ls : List (List UInt8 × Int)) : ∀ u ∈ linesV ls, u.oneCell' = true := by
  intro u hu
  unfold linesV at hu
  rw [List.mem_flatMap] at hu
  obtain ⟨l, _, hl⟩ := hu
  simp [lineCells] at hl
  rcases hl with rfl | rfl <;> rfl

set_option maxHeartbeats 400000 in
theorem feeds_many (most : Int) (A : Option Addr) (n cap : Nat) (w : World) (hn : n ≤ maxLen) (h : 30 < n) :
    Calls Try.prog 5 #[.int .i64 most, .slice A n cap] w fun e w' => e = .returned (.bool true) ∧ Below w.heap.size w w' := by
  unfold maxLen at hn
  go_enter Try.func5, Try.ntmps5
  go_wp2_with (go_at_call 19; refine (works24 _).mono ?_; rintro e w1 ⟨rfl, hb⟩)
  go_ret
  exact ⟨rfl, hb⟩

set_option maxHeartbeats 400000 in
theorem feeds_none (most : Int) (A : Option Addr) (n cap : Nat) (w : World) (h : n ≤ 30) (hm : most < 1 ∨ 4096 < most) :
    Calls Try.prog 5 #[.int .i64 most, .slice A n cap] w fun e w' => e = .returned (.bool true) ∧ Below w.heap.size w w' := by
  rcases hm with hm | hm
  all_goals
    go_enter Try.func5, Try.ntmps5
    go_wp2_with fail
    refine (new_no most _ (by omega)).mono ?_; rintro e w' ⟨rfl, rfl⟩
    go_wp2_with (go_at_call 19; refine (works24 _).mono ?_; rintro e w1 ⟨rfl, hb⟩)
    go_ret
    exact ⟨rfl, hb⟩

set_option maxRecDepth 100000 in
set_option maxHeartbeats 2000000 in
theorem feeds_go (m : Nat) (A : Option Addr) (n cap : Nat) (ss : List ByteArray) (w : World) (h : n ≤ 30) (hm1 : 1 ≤ m) (hm2 : m ≤ 4096) (hin : StrsIn w A n ss) :
    Calls Try.prog 5 #[.int .i64 (m : Int), .slice A n cap] w fun e w' => e = .returned (.bool true) ∧ Below w.heap.size w w' := by
  have HIN := Lib.hid hin
  clear hin
  obtain ⟨i0, hi, hz0, hz1, hz2⟩ := info_parts Try.info44
  go_enter Try.func5, Try.ntmps5
  go_wp2_with fail
  refine (new_yes m _ hm1 hm2).mono ?_; rintro e w' ⟨rfl, rfl⟩
  have hf1 := new_fr m w
  have hb1 := (Below.refl w.heap.size w).alloc (Nat.le_refl _) (.cells #[.slice none 0 0, .bool false, .int .i64 (m : Int)] 72)
  generalize w.alloc (.cells #[.slice none 0 0, .bool false, .int .i64 (m : Int)] 72) = w1 at *
  go_wp2
  go_loopw [7, 8, 9] (fun all got i wr => ∃ (k : Nat) (S : ByteArray) (bv : Value), k ≤ n ∧ i = .int .i64 k ∧ all = .string S ∧ S.size ≤ 300 * k ∧ wr.ownsRow w.heap.size 44 2 got (fd m [] S.data.toList).1.length (linesV (fd m [] S.data.toList).1) ∧ FrAt wr w.heap.size w.heap.size bv m (fd m [] S.data.toList).2 ∧ Below w.heap.size w wr) (fun _ _ i _ => n - (intOf i).toNat)
  case atStart => exact ⟨0, ⟨#[]⟩, .slice none 0 0, by omega, rfl, rfl, by simp [ByteArray.size], World.ownsRow_nil _ _ _ _, hf1, hb1⟩
  case round =>
    obtain ⟨k, S, bv, hk, rfl, rfl, hS, hgot, hfr, hb⟩ := hrel
    by_cases hlt : k < n
    · obtain ⟨ad, rfl, had, hcell, _⟩ := HIN.out k hlt
      have hcell' : wr.cell? (ad.add k) = some (.string (ss.getD k ByteArray.empty)) := (hb.cell (p := ad.add k) (by rw [add_block]; exact had)).trans hcell
      generalize ss.getD k ByteArray.empty = T at *
      clear hcell
      by_cases h300 : 300 < T.size
      · go_wp2_with (go_at_call 19; refine (works24 _).mono ?_; rintro e w9 ⟨rfl, hb9⟩)
        go_ret
        exact ⟨rfl, below_then hb hb9⟩
      · go_wp2_with fail
        refine (feed_any w.heap.size w.heap.size m bv (fd m [] S.data.toList).2 T _ hm1 hm2 hfr hb.size (by omega)).mono ?_
        rintro e w3 ⟨v, bv3, rfl, hv, hfr3, hk3, hn3⟩
        have hgot3 := hk3.own hgot (fun i hi hx => by
          rcases hx with hx | hx
          · subst hx; exact hfr.1.ne_own hgot (by decide) hi
          · exact own_ne_own hgot hfr.2 (by decide) i hi hx)
        have hb3 : Below w.heap.size w w3 := hb.trans (hk3.below (fun i hx => by
          rcases hx with hx | hx
          · omega
          · exact own_grown_ge hfr.2 i hx) hb.size)
        have HFD := Lib.hid (show fd m [] (S ++ T).data.toList = _ by rw [ByteArray.data_append, Array.toList_append, fd_append])
        have hST : (S ++ T).size ≤ 300 * (k + 1) := by rw [ByteArray.size_append]; omega
        have hST' : (S ++ T).size ≤ 9000 := by omega
        have hlen := (fd_length m (S ++ T).data.toList []).1
        have HLL := Lib.hid (congrArg (fun q => q.1.length) HFD.out)
        simp only [] at HLL
        have hq : (fd m [] S.data.toList).1.length + (fd m (fd m [] S.data.toList).2 T.data.toList).1.length ≤ 9000 := by
          have := HLL.out
          rw [List.length_append] at this
          rw [← this]
          have : (S ++ T).data.toList.length = (S ++ T).size := by simp
          omega
        have hp3 := held_length m (fd m (fd m [] S.data.toList).2 T.data.toList).2
        clear hgot hfr hb hk3 hn3 hlen hcell'
        generalize hU : S ++ T = U at *
        have HU := Lib.hid hU
        clear hU
        go_wp2_with (at_builtin; refine wpList_append_rows rfl _ _ 36 rfl w.heap.size 44 i0 (.agg #[.string ⟨#[]⟩, .int .i64 0]) 2 24 Try.underlying36 hi hz0 hz1 hz2 rfl (by decide) _ _ _ rfl hgot3 _ _ _ _ rfl hv (linesV_cells _) (by unfold maxLen; omega) (by omega) hb3.size ?_)
        intro v' w4 hgot4 hgrow
        have hk4 : Kept w3 w4 (fun i => u8.ownBlock = some i) := (Kept.refl w3 _).grown hgrow (fun i hi _ => hi)
        have hfr4 := fr_kept hfr3 hk4 (hfr3.1.ne_own hgot3 (by decide)) (fun i hi => own_ne_own hfr3.2 hgot3 (by decide) i hi)
        have hb4 : Below w.heap.size w w4 := hb3.grown hgrow hb3.size (own_grown_ge hgot3)
        rw [← linesV_append, ← List.length_append] at hgot4
        rw [show (fd m [] S.data.toList).1 ++ (fd m (fd m [] S.data.toList).2 T.data.toList).1 = (fd m [] U.data.toList).1 from (congrArg Prod.fst HFD.out).symm] at hgot4
        rw [show (fd m (fd m [] S.data.toList).2 T.data.toList).2 = (fd m [] U.data.toList).2 from (congrArg Prod.snd HFD.out).symm] at hfr4 hp3
        clear hgot3 hv hfr3 hb3 hgrow hk4
        go_wp2_with fail
        refine (rlines24 U m _ hm2 (by omega)).mono ?_
        rintro e w5 ⟨v2, R, rfl, hR, hrow, hb5⟩
        have hgot5 := own_below hgot4 hb5
        have hfr5 := fr_below hfr4 hb5
        have hb6 := below_then hb4 hb5
        have hRs : R.size = (fd m [] U.data.toList).2.length := by rw [← hR]; simp
        clear hgot4 hfr4 hb4 hb5
        go_wp2_with fail
        refine (same24 _ _ _ v' v2 _ _ rfl hgot5 hrow).mono ?_
        rintro e w6 ⟨rfl, hb7⟩
        have hfr6 := fr_below hfr5 hb7
        have hgot6 := own_below hgot5 hb7
        have hb8 := below_then hb6 hb7
        clear hfr5 hgot5 hb6 hb7 hrow
        have HRS := Lib.hid hRs
        have HP3 := Lib.hid hp3
        clear hRs hp3 hR
        go_wp2_with fail
        refine (left_any _ _ m bv3 _ _ hfr6).mono ?_; rintro e w' ⟨rfl, rfl⟩
        have hfin : (((heldL m (fd m [] U.data.toList).2).length : Int) != if (m : Int) + 1 < (R.size : Int) then (m : Int) + 1 else (R.size : Int)) = false := by
          have h1 := HRS.out
          have h2 := HP3.out
          rw [bne_eq_false_iff_eq]
          split <;> omega
        go_wp2_with fail
        exact ⟨⟨k + 1, U, bv3, by omega, by go_num, rfl, hST, hgot6, hfr6, hb8⟩, by simp [intOf]; omega⟩
    · go_wp2_with (go_at_call 19; refine (works24 _).mono ?_; rintro e w9 ⟨rfl, hb9⟩)
      go_ret
      exact ⟨rfl, below_then hb hb9⟩

theorem strsIn_of {W : World} {x : Addr} {zs : List ByteArray} {len : Nat} (hl : len ≤ zs.length) (hcell : ∀ i, i < zs.length → W.cell? (x.add i) = some (.string (zs.getD i ByteArray.empty))) (hw : ∀ s ∈ zs, s.size ≤ maxLen) : StrsIn W (some x) len zs := fun j hj => by
  have hc := hcell j (by omega)
  refine ⟨x, rfl, ?_, hc, hw _ ?_⟩
  · have := World.block_lt_of_cell? W _ hc
    rwa [add_block] at this
  · rw [List.getD_eq_getElem?_getD, List.getElem?_eq_getElem (by omega)]
    exact List.getElem_mem _

theorem feeds_all (most : Int) (A : Option Addr) (n cap : Nat) (ss : List ByteArray) (w : World) (hn : n ≤ maxLen) (hin : StrsIn w A n ss) :
    Calls Try.prog 5 #[.int .i64 most, .slice A n cap] w fun e w' => e = .returned (.bool true) ∧ Below w.heap.size w w' := by
  by_cases h : 30 < n
  · exact feeds_many most A n cap w hn h
  · by_cases hm : most < 1 ∨ 4096 < most
    · exact feeds_none most A n cap w (by omega) hm
    · obtain ⟨m, rfl⟩ := Int.eq_ofNat_of_zero_le (show 0 ≤ most by omega)
      exact feeds_go m A n cap ss w (by omega) (by omega) (by omega) hin

end Go.Proofs.Ytdgbhbifeohfjaa
