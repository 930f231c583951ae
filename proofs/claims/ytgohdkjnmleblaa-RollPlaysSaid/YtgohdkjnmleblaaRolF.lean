/- Acts that came in; the walk of the law RollKeeps. -/
import Derived.Test.YtgohdkjnmleblaaRolE
import Derived.Deep.Slices
namespace Go.Proofs.Ytgohdkjnmleblaa
open Go.RowKit
attribute [local go_sem ↓] Go.wp_at_zero Go.wp_at_succ

/-- An act. -/
structure OpT where
  kind : Nat
  id : Int
  s : ByteArray
instance : Inhabited OpT := ⟨⟨0, 0, ⟨#[]⟩⟩⟩
/-- Acts that came in. -/
def OpsIn (w : World) (A : Option Addr) (n : Nat) (f : Nat → OpT) : Prop :=
  ∀ j, j < n → ∃ gb o, A = some ⟨gb, o, none⟩ ∧ gb < w.heap.size ∧ w.cell? ⟨gb, o + j * 3, none⟩ = some (.int .u8 ((f j).kind : Int)) ∧ w.cell? ⟨gb, o + j * 3 + 1, none⟩ = some (.int .i64 (f j).id) ∧ w.cell? ⟨gb, o + j * 3 + 2, none⟩ = some (.string (f j).s) ∧ (f j).kind < 256
theorem spot_none {w : World} {a : Addr} {v : Value} (h : w.cell? a = some v) : a.spot = none := by
  unfold World.cell? at h
  cases hs : a.spot with
  | none => rfl
  | some x => rw [hs] at h; split at h <;> simp at h
theorem add_plain {b o : Nat} (j : Nat) : (⟨b, o, none⟩ : Addr).add j = ⟨b, o + j, none⟩ := by unfold Addr.add; split <;> simp_all
theorem Try.cells30 : Try.prog.cellsOf 30 = 3 := by kernel_rfl
theorem Try.cells5 : Try.prog.cellsOf 5 = 1 := by kernel_rfl
theorem Try.cells3 : Try.prog.cellsOf 3 = 1 := by kernel_rfl
theorem Try.cells9 : Try.prog.cellsOf 9 = 1 := by kernel_rfl
theorem ops_of {H : Type} {enc : TypeId × Value → H} {W : World} {base : Nat} {spare : Nat → Bool} {held : Bool} {fuel : Nat} {A : Option Addr} {len cap : Nat} {x : DataW H × List MemPlace}
    (h : DataW.trod enc Try.prog W base spare held fuel 22 (Value.slice A len cap).cells.toList = some x) : ∃ f, OpsIn W A len f ∧ len ≤ maxLen := by
  rcases Go.Deep.open_slice Try.underlying22 h with ⟨hcs, _⟩ | ⟨a, n, c, m, fu, D, Pl, hcs, _, hl, hm, hmm, _, hx⟩
  · simp [Value.cells] at hcs
    obtain ⟨rfl, rfl, rfl⟩ := hcs
    exact ⟨fun _ => ⟨0, 0, ⟨#[]⟩⟩, fun j hj => absurd hj (by omega), by unfold maxLen; omega⟩
  · simp [Value.cells] at hcs
    obtain ⟨rfl, rfl, rfl⟩ := hcs
    have hlm : len ≤ m := by rw [hmm]; split <;> omega
    have each : ∀ i, i < m → ∃ q : OpT, W.cell? (a.add (i * 3)) = some (.int .u8 (q.kind : Int)) ∧ W.cell? (a.add (i * 3 + 1)) = some (.int .i64 q.id) ∧ W.cell? (a.add (i * 3 + 2)) = some (.string q.s) ∧ q.kind < 256 := by
      intro i hi
      obtain ⟨cs', h1, h2⟩ := hx i hi
      rw [Try.cells30] at h1
      obtain ⟨_, hlen, hcell⟩ := World.cells?_some h1
      obtain ⟨xs, k, hk, hxy, _, hxl, hf⟩ := DataW.trod_struct Try.underlying30 h2
      match xs, hxl, cs', hlen with
      | [y0, y1, y2], _, [v0, v1, v2], _ =>
        have g0 := hf 0 _ rfl
        have g1 := hf 1 _ rfl
        have g2 := hf 2 _ rfl
        simp [Try.cells5, Try.cells3, Try.cells9] at g0 g1 g2
        have z0 := hcell 0 (by omega)
        have z1 := hcell 1 (by omega)
        have z2 := hcell 2 (by omega)
        rw [Go.Deep.add_add] at z0 z1 z2
        obtain ⟨n0, r0, _, w0⟩ := DataW.trod_int Try.underlying5 g0
        obtain ⟨n1, r1, _, _⟩ := DataW.trod_int Try.underlying3 g1
        obtain ⟨s2, r2, _, _⟩ := DataW.trod_string Try.underlying9 g2
        simp at r0 r1 r2
        subst r0 r1 r2
        have e1 : IntKind.u8.min = 0 := rfl
        have e2 : IntKind.u8.max = 255 := rfl
        have hw : 0 ≤ n0 ∧ n0 ≤ 255 := by simpa [Lit.wf, e1, e2] using w0
        obtain ⟨n0, rfl⟩ := Int.eq_ofNat_of_zero_le hw.1
        exact ⟨⟨n0, n1, s2⟩, by simpa using z0, by simpa using z1, by simpa using z2, by show n0 < 256; omega⟩
    obtain ⟨f, hf⟩ := Go.Deep.choose_lt each
    refine ⟨f, fun j hj => ?_, by omega⟩
    obtain ⟨z1, _⟩ := hf 0 (by omega)
    obtain ⟨c1, c2, c3, c4⟩ := hf j (by omega)
    rw [Nat.zero_mul, show a.add 0 = a by simp [Addr.add]] at z1
    have hs := spot_none z1
    have hbl := World.block_lt_of_cell? W _ z1
    obtain ⟨gb, o, sp⟩ := a
    simp only at hs
    subst hs
    rw [add_plain] at c1 c2 c3
    exact ⟨gb, o, rfl, hbl, c1, c2, c3, c4⟩

theorem hasId_some (id : Int) (p : Int × ByteArray) : hasId id (some p) = (p.1 == id) := by simp [hasId, idOf]
theorem get0 {l : List Sl} {s : Sl} (h : l[0]? = some s) : ∃ hk : 0 < l.length, l[0] = s := by
  obtain ⟨h1, h2⟩ := List.getElem?_eq_some_iff.1 h
  exact ⟨h1, h2⟩
theorem put_keeps {l : List Sl} {most : Nat} {id id' : Int} {x y : ByteArray} (h : l[0]? = some (some (id, x))) : (putL l most id' y).1[0]? = some (some (id, x)) ∧ (putL l most id' y).1.length ≤ l.length + 1 := by
  obtain ⟨h0, h1⟩ := get0 h
  unfold putL
  split
  · exact ⟨h, Nat.le_succ _⟩
  · split
    · exact ⟨h, Nat.le_succ _⟩
    · rcases fnd_cases free l with ⟨k, hk, hf, hp, _⟩ | ⟨hf, _⟩
      · rw [hf, if_pos (by omega)]
        have hk0 : k ≠ 0 := fun e => by subst e; rw [h1] at hp; cases hp
        refine ⟨?_, by simp⟩
        show (l.set k _)[0]? = _
        rw [List.getElem?_set_ne hk0]; exact h
      · rw [hf, if_neg (by omega)]
        refine ⟨?_, by simp⟩
        show (l ++ _)[0]? = _
        rw [List.getElem?_append_left h0]; exact h
theorem drop_keeps {l : List Sl} {id id' : Int} {x : ByteArray} (h : l[0]? = some (some (id, x))) (hne : id' ≠ id) : (dropL l id').1[0]? = some (some (id, x)) ∧ (dropL l id').1.length ≤ l.length + 1 := by
  obtain ⟨h0, h1⟩ := get0 h
  unfold dropL
  rcases fnd_cases (hasId id') l with ⟨k, hk, hf, hp, _⟩ | ⟨hf, _⟩
  · rw [hf, if_pos (by omega)]
    have hk0 : k ≠ 0 := fun e => by
      subst e; rw [h1, hasId_some] at hp
      exact hne (show id = id' by simpa using hp).symm
    refine ⟨?_, by simp⟩
    show (l.set k _)[0]? = _
    rw [List.getElem?_set_ne hk0]; exact h
  · rw [hf, if_neg (by omega)]
    exact ⟨h, Nat.le_succ _⟩
theorem fnd_first {l : List Sl} {id : Int} {x : ByteArray} (h : l[0]? = some (some (id, x))) : fnd (hasId id) l = 0 := by
  obtain ⟨h0, h1⟩ := get0 h
  have := fnd_hit (p := hasId id) h0 (by rw [h1, hasId_some]; simp) (fun j hj => absurd hj (Nat.not_lt_zero j))
  simpa using this
theorem fnd_other {l : List Sl} {id id' : Int} {x : ByteArray} (h : l[0]? = some (some (id, x))) (hne : id' ≠ id) : fnd (hasId id') l ≠ 0 := by
  obtain ⟨h0, h1⟩ := get0 h
  rcases fnd_cases (hasId id') l with ⟨k, hk, hf, hp, _⟩ | ⟨hf, _⟩
  · rw [hf]
    intro e
    have : k = 0 := by omega
    subst this
    rw [h1, hasId_some] at hp
    exact hne (show id = id' by simpa using hp).symm
  · rw [hf]; omega
theorem get_first {l : List Sl} {id : Int} {x : ByteArray} (h : l[0]? = some (some (id, x))) : getL l 0 = (id, x, true) := by
  obtain ⟨h0, h1⟩ := get0 h
  unfold getL
  rw [dif_pos ⟨by omega, by simpa using h0⟩]
  simp only [Int.toNat_zero, h1]
  rfl
abbrev sMine : ByteArray := ⟨#[109, 105, 110, 101]⟩

set_option maxHeartbeats 400000 in
theorem keeps_many (id : Int) (A : Option Addr) (n cap : Nat) (w : World) (hn : n ≤ maxLen) (h : 60 < n) :
    Calls Try.prog 4 #[.int .i64 id, .slice A n cap] w fun e w' => e = .returned (.bool true) ∧ Below w.heap.size w w' := by
  unfold maxLen at hn
  go_enter Try.func4, Try.ntmps4
  go_wp2_with (go_at_call 6; refine (works37 _).mono ?_; rintro e w1 ⟨rfl, hb⟩)
  go_ret
  exact ⟨rfl, hb⟩

set_option maxRecDepth 100000 in
set_option maxHeartbeats 4000000 in
theorem keeps_few (id : Int) (A : Option Addr) (n cap : Nat) (f : Nat → OpT) (w : World) (h : n ≤ 60) (hin : OpsIn w A n f) :
    Calls Try.prog 4 #[.int .i64 id, .slice A n cap] w fun e w' => e = .returned (.bool true) ∧ Below w.heap.size w w' := by
  have HIN := Lib.hid hin
  clear hin
  go_enter Try.func4, Try.ntmps4
  go_wp2_with fail
  refine (new_yes 100 _ (by omega) (by omega)).mono ?_; rintro e w' ⟨rfl, rfl⟩
  have h0 : RollOk w (w.alloc (.cells #[.slice none 0 0, .int .i64 100, .int .i64 0] 59)) w.heap.size [] 100 := roll_new 100 w
  generalize w.alloc (.cells #[.slice none 0 0, .int .i64 ((100 : Nat) : Int), .int .i64 0] 59) = w0 at *
  go_wp2_with fail
  refine (put_ok h0 (by omega) (by simp) (show putL [] 100 id sMine = ([some (id, sMine)], 0, 0) from rfl)).mono ?_; rintro e w1 ⟨rfl, h1, _⟩
  clear h0
  go_wp2
  go_loopw [9, 10, 11, 12, 13] (fun i _ _ _ _ wr => ∃ (k : Nat) (l : List Sl), k ≤ n ∧ i = .int .i64 k ∧ Hid (l[0]? = some (some (id, sMine))) ∧ l.length ≤ k + 1 ∧ RollOk w wr w.heap.size l 100) (fun i _ _ _ _ _ => n - (intOf i).toNat)
  case atStart => exact ⟨0, [some (id, sMine)], by omega, rfl, (by unfold Hid; rfl), by simp, h1⟩
  case round =>
    clear h1
    obtain ⟨k, l, hk, rfl, HL, hlen, hr⟩ := hrel
    by_cases hlt : k < n
    · obtain ⟨gb, o, rfl, had, c1, c2, c3, hkd⟩ := HIN.out k hlt
      have d1 := (hr.below.cell (p := ⟨gb, o + k * 3, none⟩) had).trans c1
      have d2 := (hr.below.cell (p := ⟨gb, o + k * 3 + 1, none⟩) had).trans c2
      have d3 := (hr.below.cell (p := ⟨gb, o + k * 3 + 2, none⟩) had).trans c3
      have g0 : (0 : Int) ≤ (k : Int) := by omega
      have g3 : (k : Int) < (n : Int) := by omega
      clear HIN
      generalize f k = op at *
      obtain ⟨kd, id', x⟩ := op
      simp only at d1 d2 d3 c1 c2 c3 hkd
      by_cases hii : id' = id
      · subst hii
        have hq : (id' == id') = true := by simp
        clear c1 c2 c3 d1 d3
        go_wp2
        exact ⟨⟨k + 1, l, by omega, by go_num, HL, by omega, hr⟩, by simp [intOf]; omega⟩
      · have hq : (id' == id) = false := by simpa using hii
        by_cases hev : kd % 2 = 0
        · have hrem : ((kd : Int) % 2 == 0) = true := by rw [beq_iff_eq]; omega
          obtain ⟨hp1, hp2⟩ := put_keeps (most := 100) (id' := id') (y := x) HL.out
          obtain ⟨l2, k2, cc, hpe⟩ : ∃ l2 k2 cc, putL l 100 id' x = (l2, k2, cc) := ⟨_, _, _, rfl⟩
          rw [hpe] at hp1 hp2
          have HL2 : Hid (l2[0]? = some (some (id, sMine))) := hp1
          have HPE := Lib.hid hpe
          simp only at hp2
          clear hp1 hpe HL
          have hrd : RollOk w wr.drew w.heap.size l 100 := hr.next (drawnN (Below.refl _ _) 1)
          clear hr
          go_wp2_with fail
          go_region_held3 (fun X => X.cell? ⟨gb, o + k * 3 + 1, none⟩ = some (.int .i64 id') ∧ X.cell? ⟨gb, o + k * 3 + 2, none⟩ = some (.string x)) (first | exact ⟨d2, d3⟩ | exact ⟨(hr2.below.cell (p := ⟨gb, o + k * 3 + 1, none⟩) had).trans c2, (hr2.below.cell (p := ⟨gb, o + k * 3 + 2, none⟩) had).trans c3⟩) (first | (go_at_call 14; refine (put_ok hrd (by omega) (by omega) HPE.out).mono ?_; rintro e w2 ⟨rfl, hr2, _⟩))
          clear hrd d1 d2 d3
          have HG := get_first HL2.out
          have hfo := fnd_other HL2.out hii
          have hff := fnd_first HL2.out
          have hslen : (slotsOf l2).length = many l2 := by unfold slotsOf; rw [List.length_map, items_len]
          have hnq : (fnd (hasId id') l2 == 0) = false := by rw [beq_eq_false_iff_ne]; exact hfo
          have hnz : (fnd (hasId id') l2 = 0) = False := by simp [hfo]
          go_wp2_with fail
          refine (get_ok 0 hr2 HG).mono ?_; rintro e w3 ⟨rfl, hr3, _⟩
          clear hr2
          have d2 := (hr3.below.cell (p := ⟨gb, o + k * 3 + 1, none⟩) had).trans c2
          go_wp2_with fail
          refine (slot_ok id' hr3).mono ?_; rintro e w4 ⟨rfl, hr4, _⟩
          clear hr3 d2
          go_wp2_with fail
          refine (slot_ok id hr4).mono ?_; rintro e w5 ⟨rfl, hr5, _⟩
          rw [hff]
          clear hr4
          go_wp2_with fail
          refine (slots_ok hr5).mono ?_; rintro e w6 ⟨⟨v6, rfl, hv6, _⟩, hr6⟩
          rw [hslen] at hv6
          obtain ⟨A6, ca6, rfl, _⟩ := own_form hv6
          clear hr5
          go_wp2_with fail
          refine (len_ok hr6).mono ?_; rintro e w' ⟨rfl, rfl⟩
          have hmm : ((many l2 : Int) != (many l2 : Int)) = false := by simp
          go_wp2_with fail
          exact ⟨⟨k + 1, l2, by omega, by go_num, HL2, by omega, hr6⟩, by simp [intOf]; omega⟩
        · have hrem : ((kd : Int) % 2 == 0) = false := by rw [beq_eq_false_iff_ne]; omega
          obtain ⟨hp1, hp2⟩ := drop_keeps (id' := id') HL.out hii
          obtain ⟨l2, dd, hpe⟩ : ∃ l2 dd, dropL l id' = (l2, dd) := ⟨_, _, rfl⟩
          rw [hpe] at hp1 hp2
          have HL2 : Hid (l2[0]? = some (some (id, sMine))) := hp1
          have HPE := Lib.hid hpe
          simp only at hp2
          clear hp1 hpe HL
          go_wp2_with fail
          refine (drop_ok hr (by omega) HPE.out).mono ?_; rintro e w2 ⟨rfl, hr2, _⟩
          clear hr d1 d2 d3
          have HG := get_first HL2.out
          have hfo := fnd_other HL2.out hii
          have hff := fnd_first HL2.out
          have hslen : (slotsOf l2).length = many l2 := by unfold slotsOf; rw [List.length_map, items_len]
          have hnq : (fnd (hasId id') l2 == 0) = false := by rw [beq_eq_false_iff_ne]; exact hfo
          have hnz : (fnd (hasId id') l2 = 0) = False := by simp [hfo]
          go_wp2_with fail
          refine (get_ok 0 hr2 HG).mono ?_; rintro e w3 ⟨rfl, hr3, _⟩
          clear hr2
          have d2 := (hr3.below.cell (p := ⟨gb, o + k * 3 + 1, none⟩) had).trans c2
          go_wp2_with fail
          refine (slot_ok id' hr3).mono ?_; rintro e w4 ⟨rfl, hr4, _⟩
          clear hr3 d2
          go_wp2_with fail
          refine (slot_ok id hr4).mono ?_; rintro e w5 ⟨rfl, hr5, _⟩
          rw [hff]
          clear hr4
          go_wp2_with fail
          refine (slots_ok hr5).mono ?_; rintro e w6 ⟨⟨v6, rfl, hv6, _⟩, hr6⟩
          rw [hslen] at hv6
          obtain ⟨A6, ca6, rfl, _⟩ := own_form hv6
          clear hr5
          go_wp2_with fail
          refine (len_ok hr6).mono ?_; rintro e w' ⟨rfl, rfl⟩
          have hmm : ((many l2 : Int) != (many l2 : Int)) = false := by simp
          go_wp2_with fail
          exact ⟨⟨k + 1, l2, by omega, by go_num, HL2, by omega, hr6⟩, by simp [intOf]; omega⟩
    · go_wp2_with (go_at_call 6; refine (works37 _).mono ?_; rintro e w9 ⟨rfl, hb9⟩)
      go_ret
      exact ⟨rfl, below_then hr.below hb9⟩

theorem keeps_all (id : Int) (A : Option Addr) (n cap : Nat) (f : Nat → OpT) (w : World) (hn : n ≤ maxLen) (hin : OpsIn w A n f) :
    Calls Try.prog 4 #[.int .i64 id, .slice A n cap] w fun e w' => e = .returned (.bool true) ∧ Below w.heap.size w w' := by
  by_cases h : 60 < n
  · exact keeps_many id A n cap w hn h
  · exact keeps_few id A n cap f w (by omega) hin

end Go.Proofs.Ytgohdkjnmleblaa
