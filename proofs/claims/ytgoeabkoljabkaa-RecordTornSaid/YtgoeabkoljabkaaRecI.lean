/- Items cut off anywhere: the plain law; the walks of Few and All. -/
import Derived.Test.YtgoeabkoljabkaaRecH
import Derived.Deep.Slices
namespace Go.Proofs.Ytgoeabkoljabkaa
open Go.RowKit
attribute [local go_sem ↓] Go.wp_at_zero Go.wp_at_succ

/-! ### The plain law -/
def okI (x : It) : Prop := chk x.1 x.2.1 x.2.2.length = 0 ∧ x.2.2.length ≤ 200
def allL (F : List It) : List UInt8 := F.flatMap fullL
/-- How many of the items lie in the first n bytes whole, and how many bytes these have. -/
def wholeN : List It → Nat → Nat × Nat
  | [], _ => (0, 0)
  | x :: F, n => if 14 + x.2.2.length ≤ n then ((wholeN F (n - (14 + x.2.2.length))).1 + 1, (wholeN F (n - (14 + x.2.2.length))).2 + (14 + x.2.2.length)) else (0, 0)
theorem allL_cons (x : It) (F : List It) : allL (x :: F) = fullL x ++ allL F := by simp [allL]
theorem allL_append (F G : List It) : allL (F ++ G) = allL F ++ allL G := by simp [allL]
theorem allL_len : ∀ F : List It, (∀ x ∈ F, okI x) → (allL F).length ≤ F.length * 214
  | [], _ => by simp [allL]
  | x :: F, h => by
    have ih := allL_len F (fun y hy => h y (List.mem_cons_of_mem _ hy))
    have hx := (h x (List.mem_cons_self ..)).2
    rw [allL_cons, List.length_append, fullL_len, List.length_cons]
    omega
theorem read_cut (x : It) (hc : chk x.1 x.2.1 x.2.2.length = 0) (n : Nat) (h : n < 14 + x.2.2.length) : (readL ((fullL x).take n)).2.2 ≠ 0 := by
  intro e
  obtain ⟨_, _, hle⟩ := readL_yes e
  have hl := fullL_len x
  have hlen : ((fullL x).take n).length = n := by rw [List.length_take]; omega
  rw [hlen] at hle
  have e2 : (((fullL x).take n).drop 8).take 2 = ((fullL x).drop 8).take 2 := by
    rw [List.drop_take, List.take_take]
    congr 1; omega
  have e3 : lnL ((fullL x).take n) = x.2.2.length := by rw [← full_ln x hc]; unfold lnL; rw [e2]
  omega
theorem torn : ∀ (F : List It), (∀ x ∈ F, okI x) → ∀ (n f : Nat), n < f → n ≤ (allL F).length → scanL f ((allL F).take n) = (F.take (wholeN F n).1, (wholeN F n).2)
  | [], _, n, f, hf, hn => by
    obtain ⟨f', rfl⟩ : ∃ f', f = f' + 1 := ⟨f - 1, by omega⟩
    have : (allL []).take n = [] := by simp [allL]
    rw [this, scanL, rd_empty rfl, if_neg (by decide)]
    rfl
  | x :: F, h, n, f, hf, hn => by
    obtain ⟨f', rfl⟩ : ∃ f', f = f' + 1 := ⟨f - 1, by omega⟩
    have hx := (h x (List.mem_cons_self ..)).1
    have hl := fullL_len x
    rw [allL_cons, List.length_append] at hn
    by_cases hw : 14 + x.2.2.length ≤ n
    · have e : (allL (x :: F)).take n = fullL x ++ (allL F).take (n - (14 + x.2.2.length)) := by
        rw [allL_cons, List.take_append, List.take_of_length_le (by omega), hl]
      have ih := torn F (fun y hy => h y (List.mem_cons_of_mem _ hy)) (n - (14 + x.2.2.length)) f' (by omega) (by omega)
      rw [e, scanL, read_full x _ hx, if_pos rfl]
      simp only
      rw [← hl, List.drop_left, hl, ih]
      simp only [wholeN]
      rw [if_pos hw]
      simp only [List.take_succ_cons, Prod.mk.injEq, true_and]
      omega
    · have e : (allL (x :: F)).take n = (fullL x).take n := by rw [allL_cons, List.take_append_of_le_length (by omega)]
      rw [e, scanL, if_neg (read_cut x hx n (by omega))]
      simp only [wholeN]
      rw [if_neg hw]
      rfl

/-! ### Items that came in -/
def ItsIn (w : World) (A : Option Addr) (n : Nat) (f : Nat → It) : Prop :=
  ∀ j, j < n → ∃ gb o, A = some ⟨gb, o, none⟩ ∧ gb < w.heap.size ∧ w.cell? ⟨gb, o + j * 3, none⟩ = some (.int .i64 (f j).1) ∧ w.cell? ⟨gb, o + j * 3 + 1, none⟩ = some (.int .i64 (f j).2.1) ∧ w.cell? ⟨gb, o + j * 3 + 2, none⟩ = some (.string ⟨(f j).2.2.toArray⟩)
theorem spot_none {w : World} {a : Addr} {v : Value} (h : w.cell? a = some v) : a.spot = none := by
  unfold World.cell? at h
  cases hs : a.spot with
  | none => rfl
  | some x => rw [hs] at h; split at h <;> simp at h
theorem add_plain {b o : Nat} (j : Nat) : (⟨b, o, none⟩ : Addr).add j = ⟨b, o + j, none⟩ := by unfold Addr.add; split <;> simp_all
theorem ba_eta (s : ByteArray) : (⟨s.data.toList.toArray⟩ : ByteArray) = s := by apply ByteArray.ext; simp
theorem Try.cells36' : Try.prog.cellsOf 36 = 3 := by kernel_rfl
theorem Try.cells3 : Try.prog.cellsOf 3 = 1 := by kernel_rfl
theorem Try.cells9 : Try.prog.cellsOf 9 = 1 := by kernel_rfl
theorem its_of {H : Type} {enc : TypeId × Value → H} {W : World} {base : Nat} {spare : Nat → Bool} {held : Bool} {fuel : Nat} {A : Option Addr} {len cap : Nat} {x : DataW H × List MemPlace}
    (h : DataW.trod enc Try.prog W base spare held fuel 39 (Value.slice A len cap).cells.toList = some x) : ∃ f, ItsIn W A len f ∧ len ≤ maxLen := by
  rcases Go.Deep.open_slice Try.underlying39 h with ⟨hcs, _⟩ | ⟨a, n, c, m, fu, D, Pl, hcs, _, hl, hm, hmm, _, hx⟩
  · simp [Value.cells] at hcs
    obtain ⟨rfl, rfl, rfl⟩ := hcs
    exact ⟨fun _ => (0, 0, []), fun j hj => absurd hj (by omega), by unfold maxLen; omega⟩
  · simp [Value.cells] at hcs
    obtain ⟨rfl, rfl, rfl⟩ := hcs
    have hlm : len ≤ m := by rw [hmm]; split <;> omega
    have each : ∀ i, i < m → ∃ q : It, W.cell? (a.add (i * 3)) = some (.int .i64 q.1) ∧ W.cell? (a.add (i * 3 + 1)) = some (.int .i64 q.2.1) ∧ W.cell? (a.add (i * 3 + 2)) = some (.string ⟨q.2.2.toArray⟩) := by
      intro i hi
      obtain ⟨cs', h1, h2⟩ := hx i hi
      rw [Try.cells36'] at h1
      obtain ⟨_, hlen, hcell⟩ := World.cells?_some h1
      obtain ⟨xs, k, hk, hxy, _, hxl, hf⟩ := DataW.trod_struct Try.underlying36 h2
      match xs, hxl, cs', hlen with
      | [y0, y1, y2], _, [v0, v1, v2], _ =>
        have g0 := hf 0 _ rfl
        have g1 := hf 1 _ rfl
        have g2 := hf 2 _ rfl
        simp [Try.cells3, Try.cells9] at g0 g1 g2
        have z0 := hcell 0 (by omega)
        have z1 := hcell 1 (by omega)
        have z2 := hcell 2 (by omega)
        rw [Go.Deep.add_add] at z0 z1 z2
        obtain ⟨n0, r0, _, _⟩ := DataW.trod_int Try.underlying3 g0
        obtain ⟨n1, r1, _, _⟩ := DataW.trod_int Try.underlying3 g1
        obtain ⟨s2, r2, _, _⟩ := DataW.trod_string Try.underlying9 g2
        simp at r0 r1 r2
        subst r0 r1 r2
        exact ⟨(n0, n1, s2.data.toList), by simpa using z0, by simpa using z1, by simp only [ba_eta]; simpa using z2⟩
    obtain ⟨f, hf⟩ := Go.Deep.choose_lt each
    refine ⟨f, fun j hj => ?_, by omega⟩
    obtain ⟨z1, _⟩ := hf 0 (by omega)
    obtain ⟨c1, c2, c3⟩ := hf j (by omega)
    rw [Nat.zero_mul, show a.add 0 = a by simp [Addr.add]] at z1
    have hs := spot_none z1
    have hbl := World.block_lt_of_cell? W _ z1
    obtain ⟨gb, o, sp⟩ := a
    simp only at hs
    subst hs
    rw [add_plain] at c1 c2 c3
    exact ⟨gb, o, rfl, hbl, c1, c2, c3⟩

/-! ### The callees, told of lists -/
theorem size_l (b : List UInt8) : (⟨b.toArray⟩ : ByteArray).size = b.length := by show b.toArray.size = _; simp
theorem rcheck_x (x : It) (w : World) : Calls Try.prog 39 #[.agg #[.int .i64 x.1, .int .i64 x.2.1, .string ⟨x.2.2.toArray⟩]] w fun e w' => e = .returned (.int .i64 (chk x.1 x.2.1 x.2.2.length)) ∧ Below w.heap.size w w' := by
  have := rcheck_any x.1 x.2.1 ⟨x.2.2.toArray⟩ w
  rwa [size_l] at this
theorem len_x (x : It) (w : World) (h : x.2.2.length ≤ 5000) : Calls Try.prog 30 #[.agg #[.int .i64 x.1, .int .i64 x.2.1, .string ⟨x.2.2.toArray⟩]] w fun e w' => e = .returned (.int .i64 ((14 + x.2.2.length : Nat) : Int)) ∧ Below w.heap.size w w' := by
  have := len_any x.1 x.2.1 ⟨x.2.2.toArray⟩ w (by rw [size_l]; exact h)
  rwa [size_l] at this
theorem put_x (x : It) (w : World) (h : chk x.1 x.2.1 x.2.2.length = 0) : Calls Try.prog 27 #[.agg #[.int .i64 x.1, .int .i64 x.2.1, .string ⟨x.2.2.toArray⟩]] w fun e w' => e = .returned (.tuple #[.string ⟨(fullL x).toArray⟩, .int .i64 0]) ∧ Below w.heap.size w w' :=
  put_is x.1 x.2.1 ⟨x.2.2.toArray⟩ _ _ w (by unfold putB putI; rw [if_pos (by simpa using h)]) (by unfold putC; rw [size_l]; exact h)

/-! ### Few -/
def FewPost (w : World) (e : Ending) (w' : World) : Prop :=
  ∃ (F : List It) (v : Value), e = .returned v ∧ (∀ x ∈ F, okI x) ∧ F.length ≤ 12 ∧ w'.ownsRow w.heap.size 36 3 v F.length (itVs F) ∧ Below w.heap.size w w'

set_option maxHeartbeats 1000000 in
theorem few_it (A : Option Addr) (n cap : Nat) (f : Nat → It) (w : World) (hn : n ≤ maxLen) (hin : ItsIn w A n f) :
    Calls Try.prog 31 #[.slice A n cap] w fun e w' => FewPost w e w' := by
  obtain ⟨i0, hi, hz0, hz1, hz2⟩ := info_parts Try.info36
  have HIN := Lib.hid hin
  clear hin
  unfold maxLen at hn
  go_enter Try.func31, Try.ntmps31
  go_wp2
  go_loopw [3, 4] (fun out i wr => ∃ (F : List It) (k : Nat), i = .int .i64 (k : Int) ∧ k ≤ n ∧ k ≤ 12 ∧ F.length ≤ k ∧ Hid (∀ x ∈ F, okI x) ∧ wr.ownsRow w.heap.size 36 3 out F.length (itVs F) ∧ Below w.heap.size w wr) (fun _ i _ => 12 - (intOf i).toNat)
  case atStart => exact ⟨[], 0, rfl, by omega, by omega, by simp, (fun x hx => by cases hx), World.ownsRow_nil _ _ _ _, Below.refl _ _⟩
  case round =>
    obtain ⟨F, k, rfl, hk, hk12, hF, HO, hown, hb⟩ := hrel
    by_cases hlt : k < n
    · have g0 : (0 : Int) ≤ (k : Int) := by omega
      have g3 : (k : Int) < (n : Int) := by omega
      by_cases h12 : k < 12
      · have g4 : (k : Int) < 12 := by omega
        obtain ⟨gb, o, rfl, had, c1, c2, c3⟩ := HIN.out k hlt
        have d1 := (hb.cell (p := ⟨gb, o + k * 3, none⟩) had).trans c1
        have d2 := (hb.cell (p := ⟨gb, o + k * 3 + 1, none⟩) had).trans c2
        have d3 := (hb.cell (p := ⟨gb, o + k * 3 + 2, none⟩) had).trans c3
        clear HIN
        generalize f k = x at *
        by_cases h200 : x.2.2.length ≤ 200
        · have s200 : (x.2.2.length : Int) ≤ 200 := by omega
          go_wp2_with fail
          refine (rcheck_x x _).mono ?_; rintro e w1 ⟨rfl, hb1⟩
          have hbb := hb.trans (hb1.mono hb.size)
          have hown1 := own_below hown hb1
          have e1 := (hbb.cell (p := ⟨gb, o + k * 3, none⟩) had).trans c1
          have e2 := (hbb.cell (p := ⟨gb, o + k * 3 + 1, none⟩) had).trans c2
          have e3 := (hbb.cell (p := ⟨gb, o + k * 3 + 2, none⟩) had).trans c3
          have hsz := hbb.size
          clear d1 d2 d3 c1 c2 c3 hb hown hb1
          by_cases hc : chk x.1 x.2.1 x.2.2.length = 0
          · have hcb : (chk x.1 x.2.1 x.2.2.length == 0) = true := by simpa using hc
            have HX : Hid (okI x) := ⟨hc, h200⟩
            have HO2 : Hid (∀ y ∈ F ++ [x], okI y) := fun y hy => by
              rcases List.mem_append.1 hy with h | h
              · exact HO y h
              · rw [List.mem_singleton] at h; subst h; exact HX
            clear hc
            go_wp2_with (at_builtin; refine wpList_append_own _ rfl _ _ 39 rfl w.heap.size 36 i0 (.agg #[.int .i64 0, .int .i64 0, .string ⟨#[]⟩]) 3 32 Try.underlying39 hi hz0 hz1 hz2 rfl (by decide) _ _ _ rfl (hown1.alloc _) ⟨_, 0, none⟩ 1 1 (itC x) rfl rfl ?c1 (itC_one _) ?c3 ?c4 ?c5 ?_)
            case c1 => exact World.news_of_block (cs := #[.int .i64 x.1, .int .i64 x.2.1, .string ⟨x.2.2.toArray⟩]) (Whole.at_ (by simp))
            case c3 => unfold maxLen; omega
            case c4 => omega
            case c5 => simp; omega
            intro v2 w2 hown2 hgrow2 _
            have hb2 : Below w.heap.size w w2 := (hbb.alloc hsz _).grown hgrow2 (by simp; omega) (own_grown_ge hown1)
            have hown3 := itpush hown2
            clear hown1 hown2 hgrow2 hbb
            go_wp2
            exact ⟨⟨F ++ [x], k + 1, by go_num, by omega, by omega, by simp; omega, HO2, hown3, hb2⟩, by simp [intOf]; omega⟩
          · have hcb : (chk x.1 x.2.1 x.2.2.length == 0) = false := by simpa using hc
            clear hc
            go_wp2
            exact ⟨⟨F, k + 1, by go_num, by omega, by omega, by omega, HO, hown1, hbb⟩, by simp [intOf]; omega⟩
        · have s200 : ¬ (x.2.2.length : Int) ≤ 200 := by omega
          go_wp2
          exact ⟨⟨F, k + 1, by go_num, by omega, by omega, by omega, HO, hown, hb⟩, by simp [intOf]; omega⟩
      · have g4 : ¬ (k : Int) < 12 := by omega
        go_wp2
        go_ret
        exact ⟨F, _, rfl, HO, by omega, hown, hb⟩
    · have g3 : ¬ (k : Int) < (n : Int) := by omega
      go_wp2
      go_ret
      exact ⟨F, _, rfl, HO, by omega, hown, hb⟩

end Go.Proofs.Ytgoeabkoljabkaa
