/- The reference's rolls: the walks of Find, Many, Slots, Drop and Put. -/
import Derived.Test.YtgohdkjnmleblaaRolG
import Derived.Laws.AppendOwnNone
namespace Go.Proofs.Ytgohdkjnmleblaa
open Go.RowKit
attribute [local go_sem ↓] Go.wp_at_zero Go.wp_at_succ

/-- 'append(v, x...)' where both are rows of the call's own, either nil or not. -/
theorem wpList_append_rows {P : Program} {w : World} {ops : Array Oper} {rest : List Oper} {o : Oper} {a : Act} {Q : Exit → Act → World → Prop} (hgd : o.guard = none) (s x : Operand) (t : TypeId)
    (ho : o.op = .call { callee := .builtin .append, args := #[s, x], argTypes := #[t, t] })
    (base : Nat) (e : TypeId) (i : TypeInfo) (z : Value) (size bytes : Nat) (ht : P.underlying t = some (.slice e)) (hi : P.info? e = some i) (hz : i.zero = some z)
    (hsize : i.size = size) (hby : i.bytes = bytes) (hzs : z.cells.size = size) (hsz : 0 < size)
    (v : Value) (n : Nat) (xs : List Value) (hs : a.eval s = v) (hown : w.ownsRow base e size v n xs)
    (b2 : Nat) (xv : Value) (m : Nat) (news : List Value) (hx : a.eval x = xv) (hown2 : w.ownsRow b2 e size xv m news) (h1 : ∀ u ∈ news, u.oneCell' = true)
    (h63 : n + m ≤ maxLen) (hbytes : (n + m) * bytes ≤ 140737488355328) (hbase : base ≤ w.heap.size)
    (h : ∀ v' w', w'.ownsRow base e size v' (n + m) (xs ++ news) → w.grownBy w' v.ownBlock → wpList P ops Q rest (a.put o.dst v') w') : wpList P ops Q (o :: rest) a w := by
  have hl := hown2.1
  rcases hown2.2 with ⟨rfl, rfl⟩ | ⟨g, cap, cur, rfl, _, hh, _⟩
  · have hn : news = [] := List.eq_nil_of_length_eq_zero (by rw [hl]; omega)
    subst hn
    refine wpList_append_own_none hgd s x t ho base e i size ht hi v n xs hs hown hx ?_
    exact h v w (by rw [List.append_nil]; exact hown) ⟨rfl, rfl, rfl, Nat.le_refl _, fun _ _ _ => rfl⟩
  · refine wpList_append_own w hgd s x t ho base e i z size bytes ht hi hz hsize hby hzs hsz v n xs hs hown ⟨g, 0, none⟩ m cap news hx hl (fun j u hu => ?_) h1 h63 hbytes hbase (fun v' w' a1 a2 _ => h v' w' a1 a2)
    have hj : j < m * size := by
      rw [← hl]
      rcases Nat.lt_or_ge j news.length with h | h
      · exact h
      · rw [List.getElem?_eq_none h] at hu; cases hu
    have e1 : (⟨g, 0, none⟩ : Addr).add j = ⟨g, j, none⟩ := by unfold Addr.add; split <;> simp_all
    rw [e1, World.ownsRow.cellAt (w := w) (g := g) (cap := cap) hown2 j hj]; exact hu
def rfC (s : Sl) : List Value := [.bool s.isSome, .int .i64 (idOf s), .string (xOf s)]
def rfV (l : List Sl) : List Value := l.flatMap rfC
theorem rfV_append (a b : List Sl) : rfV (a ++ b) = rfV a ++ rfV b := by simp [rfV]
theorem rfV_one (s : Sl) : rfV [s] = rfC s := by simp [rfV]
theorem rfV_cons (s : Sl) (l : List Sl) : rfV (s :: l) = rfC s ++ rfV l := by simp [rfV]
theorem rfC_len (s : Sl) : (rfC s).length = 3 := rfl
theorem rfC_one (s : Sl) : ∀ u ∈ rfC s, u.oneCell' = true := by
  intro u hu; simp [rfC] at hu; rcases hu with rfl | rfl | rfl <;> rfl
theorem rfV_cells (l : List Sl) : ∀ u ∈ rfV l, u.oneCell' = true := by
  intro u hu
  unfold rfV at hu
  rw [List.mem_flatMap] at hu
  obtain ⟨p, _, hp⟩ := hu
  exact rfC_one p u hp
theorem rfV_length (l : List Sl) : (rfV l).length = l.length * 3 := by
  induction l with
  | nil => rfl
  | cons s l ih => rw [rfV_cons, List.length_append, ih, rfC_len]; simp; omega
theorem rfV_at : ∀ (l : List Sl) (k : Nat) (h : k < l.length), (rfV l)[k * 3]? = some (.bool l[k].isSome) ∧ (rfV l)[k * 3 + 1]? = some (.int .i64 (idOf l[k])) ∧ (rfV l)[k * 3 + 2]? = some (.string (xOf l[k]))
  | s :: l, 0, _ => by rw [rfV_cons]; exact ⟨rfl, rfl, rfl⟩
  | s :: l, k + 1, h => by
    have ih := rfV_at l k (by simpa using h)
    rw [rfV_cons]
    have e : ∀ i, (rfC s ++ rfV l)[(k + 1) * 3 + i]? = (rfV l)[k * 3 + i]? := fun i => by
      rw [List.getElem?_append_right (by rw [rfC_len]; omega), rfC_len]
      congr 1; omega
    have e0 := e 0
    simp only [Nat.add_zero] at e0
    rw [e0, e 1, e 2]
    exact ih
theorem rfV_take (l : List Sl) (i : Nat) : (rfV l).take (i * 3) = rfV (l.take i) := by
  by_cases h : i ≤ l.length
  · conv => lhs; rw [← List.take_append_drop i l, rfV_append]
    have : (rfV (l.take i)).length = i * 3 := by rw [rfV_length, List.length_take]; congr 1; omega
    rw [← this, List.take_left]
  · rw [List.take_of_length_le (by rw [rfV_length]; omega), List.take_of_length_le (by omega)]
theorem rfV_drop (l : List Sl) (i : Nat) (h : i ≤ l.length) : (rfV l).drop (i * 3) = rfV (l.drop i) := by
  conv => lhs; rw [← List.take_append_drop i l, rfV_append]
  have : (rfV (l.take i)).length = i * 3 := by rw [rfV_length, List.length_take]; congr 1; omega
  rw [← this, List.drop_left]
/-- A row's front. -/
theorem own_take {w : World} {base : Nat} {e : TypeId} {size n cap : Nat} {A : Option Addr} {xs : List Value} (h : w.ownsRow base e size (.slice A n cap) n xs) {i : Nat} (hi : i ≤ n) : w.ownsRow base e size (.slice A i cap) i (xs.take (i * size)) := by
  obtain ⟨h1, h2⟩ := h
  refine ⟨by rw [List.length_take, h1]; exact Nat.min_eq_left (Nat.mul_le_mul_right _ hi), ?_⟩
  rcases h2 with ⟨hv, h0⟩ | ⟨g, c, cur, hv, hb, hh, hn, hm, hs, ht⟩
  · cases hv
    exact .inl ⟨by have : i = 0 := by omega
                   subst this; rfl, by omega⟩
  · cases hv
    refine .inr ⟨g, cap, cur, rfl, hb, hh, by omega, hm, hs, ?_⟩
    rw [← ht, List.take_take, Nat.min_eq_left (Nat.mul_le_mul_right _ hi)]

set_option maxHeartbeats 1000000 in
theorem rfind_any (b n : Nat) (id : Int) (v : Value) (l : List Sl) (w : World) (hn : l.length = n) (hl : n ≤ 50000) (h : w.ownsRow b 39 3 v n (rfV l)) :
    Calls Try.prog 10 #[v, .int .i64 id] w fun e w' => e = .returned (.int .i64 (fnd (hasId id) l)) ∧ w = w' := by
  subst hn
  obtain ⟨A, ca, rfl, hm, _, _, ha⟩ := own_form h
  have HA := Lib.hid ha
  clear ha h
  go_enter Try.func10, Try.ntmps10
  go_wp2
  go_loop [5] (fun i => ∃ k : Nat, k ≤ l.length ∧ i = .int .i64 k ∧ Hid (∀ j (hj : j < k) (hl : j < l.length), hasId id l[j] = false)) (fun i => l.length - (intOf i).toNat)
  case atStart => exact ⟨0, by omega, rfl, fun j hj => absurd hj (by omega)⟩
  case round =>
    obtain ⟨k, hk, rfl, HN⟩ := hrel
    by_cases hlt : k < l.length
    · obtain ⟨g1, rfl, _, _, c1⟩ := HA.out k hlt (by omega)
      obtain ⟨l1, l2, _⟩ := rfV_at l k hlt
      have d1 := (c1 (k * 3) (by omega)).trans l1
      have d2 := (c1 (k * 3 + 1) (by omega)).trans l2
      have g0 : (0 : Int) ≤ (k : Int) := by omega
      have g3 : (k : Int) < (l.length : Int) := by omega
      have HH := Lib.hid (fun (h : hasId id l[k] = true) (hn : ∀ j (hj : j < k), hasId id (l[j]'(by omega)) = false) => fnd_hit hlt h hn)
      have HM : Hid (hasId id l[k] = false → ∀ j (hj : j < k + 1) (hl : j < l.length), hasId id l[j] = false) := fun h j hj hl => by
        by_cases e : j = k
        · subst e; exact h
        · exact HN.out j (by omega) hl
      have HD : Hid (hasId id l[k] = (l[k].isSome && (idOf l[k] == id))) := rfl
      clear c1 l1 l2 HA
      generalize hasId id l[k] = B at *
      generalize l[k] = s at *
      generalize idOf s = i at *
      cases hs : s.isSome with
      | false =>
        rw [hs, Bool.false_and] at HD
        rw [hs] at d1
        go_wp2
        exact ⟨⟨k + 1, by omega, by go_num, HM.out HD.out⟩, by simp [intOf]; omega⟩
      | true =>
        rw [hs, Bool.true_and] at HD
        rw [hs] at d1
        by_cases hii : i = id
        · have hq : (i == id) = true := by simpa using hii
          rw [hq] at HD
          clear hii
          go_wp2
          go_ret
          exact ⟨by rw [HH.out HD.out (fun j hj => HN.out j hj (by omega))]; rfl, rfl⟩
        · have hq : (i == id) = false := by simpa using hii
          rw [hq] at HD
          clear hii
          go_wp2
          exact ⟨⟨k + 1, by omega, by go_num, HM.out HD.out⟩, by simp [intOf]; omega⟩
    · go_wp2
      go_ret
      exact ⟨by rw [fnd_miss (fun j hj => HN.out j (by omega) hj)]; rfl, rfl⟩

set_option maxHeartbeats 1000000 in
theorem rmany_any (b n : Nat) (v : Value) (l : List Sl) (w : World) (hn : l.length = n) (hl : n ≤ 50000) (h : w.ownsRow b 39 3 v n (rfV l)) :
    Calls Try.prog 16 #[v] w fun e w' => e = .returned (.int .i64 (many l : Int)) ∧ w = w' := by
  subst hn
  obtain ⟨A, ca, rfl, hm, _, _, ha⟩ := own_form h
  have HA := Lib.hid ha
  clear ha h
  go_enter Try.func16, Try.ntmps16
  go_wp2
  go_loop [3, 4] (fun q i => ∃ k : Nat, k ≤ l.length ∧ i = .int .i64 k ∧ q = .int .i64 (many (l.take k) : Int)) (fun _ i => l.length - (intOf i).toNat)
  case atStart => exact ⟨0, by omega, rfl, rfl⟩
  case round =>
    obtain ⟨k, hk, rfl, rfl⟩ := hrel
    by_cases hlt : k < l.length
    · obtain ⟨g1, rfl, _, _, c1⟩ := HA.out k hlt (by omega)
      obtain ⟨l1, _, _⟩ := rfV_at l k hlt
      have d1 := (c1 (k * 3) (by omega)).trans l1
      have g0 : (0 : Int) ≤ (k : Int) := by omega
      have g3 : (k : Int) < (l.length : Int) := by omega
      have HS : Hid (many (l.take (k + 1)) = many (l.take k) + (if l[k].isSome then 1 else 0)) := by
        unfold Hid
        rw [List.take_succ_eq_append_getElem hlt, many_append]
        cases l[k] <;> rfl
      have hmk := many_le (l.take k)
      rw [List.length_take] at hmk
      clear c1 l1 HA
      generalize many (l.take k) = q at *
      cases hs : l[k].isSome with
      | false =>
        rw [hs] at HS d1
        go_wp2
        exact ⟨⟨k + 1, by omega, by go_num, by rw [HS.out]; rfl⟩, by simp [intOf]; omega⟩
      | true =>
        rw [hs] at HS d1
        go_wp2
        exact ⟨⟨k + 1, by omega, by go_num, by rw [HS.out]; go_num⟩, by simp [intOf]; omega⟩
    · have ek : k = l.length := by omega
      subst ek
      rw [List.take_length]
      go_wp2
      go_ret
      exact ⟨rfl, rfl⟩

set_option maxRecDepth 100000 in
set_option maxHeartbeats 2000000 in
theorem rslots_any (b n : Nat) (v : Value) (l : List Sl) (w : World) (hn : l.length = n) (hl : n ≤ 50000) (h : w.ownsRow b 39 3 v n (rfV l)) :
    Calls Try.prog 19 #[v] w fun e w' => SlotsPost l w e w' := by
  subst hn
  obtain ⟨A, ca, rfl, hm, _, _, ha⟩ := own_form h
  have HA := Lib.hid ha
  clear ha h
  obtain ⟨i0, hi, hz0, hz1, hz2⟩ := info_parts Try.info3
  go_enter Try.func19, Try.ntmps19
  go_wp2
  go_loopw [3, 4] (fun out i wr => ∃ k : Nat, k ≤ l.length ∧ i = .int .i64 k ∧ wr.ownsRow w.heap.size 3 1 out (slotsOf (l.take k)).length (idxV (slotsOf (l.take k))) ∧ Below w.heap.size w wr) (fun _ i _ => l.length - (intOf i).toNat)
  case atStart => exact ⟨0, by omega, rfl, World.ownsRow_nil _ _ _ _, Below.refl _ _⟩
  case round =>
    obtain ⟨k, hk, rfl, hown, hb⟩ := hrel
    by_cases hlt : k < l.length
    · obtain ⟨g1, rfl, _, hg1, c1⟩ := HA.out k hlt (by omega)
      obtain ⟨l1, _, _⟩ := rfV_at l k hlt
      have d1 := ((hb.cell (p := ⟨g1, k * 3, none⟩) hg1).trans (c1 (k * 3) (by omega))).trans l1
      have g0 : (0 : Int) ≤ (k : Int) := by omega
      have g3 : (k : Int) < (l.length : Int) := by omega
      have HS : Hid (slotsOf (l.take (k + 1)) = slotsOf (l.take k) ++ (if l[k].isSome then [k] else [])) := by
        unfold Hid slotsOf
        rw [items_snoc l k hlt, List.map_append]
        cases l[k] <;> rfl
      have hsl : (slotsOf (l.take k)).length ≤ 50000 := by unfold slotsOf; rw [List.length_map, items_len]; have := many_le (l.take k); rw [List.length_take] at this; omega
      clear c1 l1 HA
      generalize slotsOf (l.take k) = ks at *
      cases hs : l[k].isSome with
      | false =>
        rw [hs] at HS d1
        go_wp2
        exact ⟨⟨k + 1, by omega, by go_num, by rw [HS.out]; simpa using hown, hb⟩, by simp [intOf]; omega⟩
      | true =>
        rw [hs] at HS d1
        have HS2 : Hid (slotsOf (l.take (k + 1)) = ks ++ [k]) := HS
        clear HS
        go_wp2_with (at_builtin; refine wpList_append_own _ rfl _ _ 47 rfl w.heap.size 3 i0 (.int .i64 0) 1 8 Try.underlying47 hi hz0 hz1 hz2 rfl (by decide) _ _ _ rfl (hown.alloc _) ⟨_, 0, none⟩ 1 1 [.int .i64 (k : Int)] rfl rfl ?c1 ?c2 ?c3 ?c4 ?c5 ?_)
        case c1 => exact World.news_of_block (cs := #[.int .i64 (k : Int)]) (heap_alloc_new wr _)
        case c2 => intro u hu; simp at hu; subst hu; rfl
        case c3 => unfold maxLen; omega
        case c4 => omega
        case c5 => have := hb.size; simp; omega
        intro v2 w2 hown2 hgrow2 _
        have hb2 : Below w.heap.size w w2 := (hb.alloc hb.size _).grown hgrow2 (by have := hb.size; simp; omega) (own_grown_ge hown)
        have hown3 : w2.ownsRow w.heap.size 3 1 v2 (ks ++ [k]).length (idxV (ks ++ [k])) := by rw [List.length_append, idxV_append]; exact hown2
        clear hown hown2 hgrow2 hb
        go_wp2
        exact ⟨⟨k + 1, by omega, by go_num, by rw [HS2.out]; exact hown3, hb2⟩, by simp [intOf]; omega⟩
    · have ek : k = l.length := by omega
      subst ek
      rw [List.take_length] at hown
      go_wp2
      go_ret
      exact ⟨_, rfl, hown, hb⟩

end Go.Proofs.Ytgohdkjnmleblaa
