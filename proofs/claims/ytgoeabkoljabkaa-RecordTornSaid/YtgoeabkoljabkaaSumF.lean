/- The walk of SumFinds. -/
import Derived.Test.YtgoeabkoljabkaaSumE
namespace Go.Proofs.Ytgoeabkoljabkaa
open Go.RowKit
attribute [local go_sem ↓] Go.wp_at_zero Go.wp_at_succ

set_option maxHeartbeats 400000 in
theorem finds_big (s : ByteArray) (at_ by_ : Int) (w : World) (h : 2000 < s.size) :
    Calls Try.prog 4 #[.string s, .int .u16 at_, .int .u8 by_] w fun e w' => e = .returned (.bool true) ∧ Below w.heap.size w w' := by
  go_enter Try.func4, Try.ntmps4
  go_wp2_with (go_at_call 10; refine (works7 _).mono ?_; rintro e w1 ⟨rfl, hb⟩)
  go_ret
  exact ⟨rfl, hb⟩

set_option maxHeartbeats 400000 in
theorem finds_empty (s : ByteArray) (at_ by_ : Int) (w : World) (h : s.size = 0) :
    Calls Try.prog 4 #[.string s, .int .u16 at_, .int .u8 by_] w fun e w' => e = .returned (.bool true) ∧ Below w.heap.size w w' := by
  obtain rfl : s = ByteArray.empty := ByteArray.size_eq_zero_iff.1 h
  clear h
  go_enter Try.func4, Try.ntmps4
  go_wp2_with (go_at_call 10; refine (works7 _).mono ?_; rintro e w1 ⟨rfl, hb⟩)
  go_ret
  exact ⟨rfl, hb⟩

theorem bytesAt_frozen (s : ByteArray) (w : World) (j : Nat) (hj : j < s.size) : (bytesAt w s).frozen? ⟨w.heap.size, j, none⟩ = false := by
  unfold bytesAt
  refine (World.frozen?_alloc_mark w.drew _ _ _ _ j).trans ?_
  have : j < (bytesRow s (grownCap w s.size 0 5)).size := by
    unfold bytesRow; simp; omega
  simp; omega
theorem bytesAt_cell' (s : ByteArray) (w : World) (j : Nat) (hj : j < s.size) : (bytesAt w s).cell? ⟨w.heap.size, j, none⟩ = some (.int .u8 (s[j].toNat : Int)) := by
  have := bytesAt_cell s w j hj
  have e : (⟨w.heap.size, 0, none⟩ : Addr).add j = ⟨w.heap.size, j, none⟩ := by unfold Addr.add; split <;> simp_all
  rwa [e] at this
/-- A slice of bytes that are all there, as a string. -/
theorem str_of (W : World) (b n cap : Nat) (l : List UInt8) (hl : l.length = n) (hc : ∀ j (hj : j < l.length), W.cell? ⟨b, j, none⟩ = some (.int .u8 (l[j].toNat : Int))) :
    (convert 29 9 (.slice (some ⟨b, 0, none⟩) n cap)).run Try.prog W = .ok (.string ⟨l.toArray⟩) W := by
  subst hl
  refine run_convert_bytes_back W 29 9 5 _ cap l Try.underlying29 Try.underlying5 Try.underlying9 (fun j hj => ?_)
  have e : (⟨b, 0, none⟩ : Addr).add j = ⟨b, j, none⟩ := by unfold Addr.add; split <;> simp_all
  rw [e]; exact hc j hj
theorem cell_set (W : World) (b i : Nat) (v u : Value) (h : W.cell? ⟨b, i, none⟩ = some u) (j : Nat) : (W.setCell ⟨b, i, none⟩ v).cell? ⟨b, j, none⟩ = if j = i then some v else W.cell? ⟨b, j, none⟩ := by
  split
  · rename_i e; subst e; exact World.cell?_setCell_same W _ v h
  · rename_i e; exact World.cell?_setCell_other W _ _ v (by intro x; injection x; omega)

/-- One byte turned, as a string again. -/
theorem turned_str (s : ByteArray) (w : World) (i : Nat) (v : UInt8) (hi : i < s.size) (cap : Nat) :
    (convert 29 9 (.slice (some ⟨w.heap.size, 0, none⟩) s.size cap)).run Try.prog ((bytesAt w s).setCell ⟨w.heap.size, i, none⟩ (.int .u8 (v.toNat : Int))) = .ok (.string ⟨(s.data.toList.set i v).toArray⟩) ((bytesAt w s).setCell ⟨w.heap.size, i, none⟩ (.int .u8 (v.toNat : Int))) := by
  refine str_of _ _ _ _ _ (by simp) (fun j hj => ?_)
  have hj' : j < s.size := by simpa using hj
  rw [cell_set _ _ _ _ _ (bytesAt_cell' s w i hi) j, List.getElem_set]
  by_cases e : j = i
  · subst e; simp
  · rw [if_neg e, if_neg (Ne.symm e), bytesAt_cell' s w j hj']; rfl

theorem turned_is (s : ByteArray) (i : Nat) (v : UInt8) (hi : i < s.size) : (sAll 0 (s.data.toList.set i v) == sAll 0 s.data.toList) = decide (v = s[i]) := by
  have hl : i < s.data.toList.length := by simpa using hi
  have e1 : s.data.toList.set i v = s.data.toList.take i ++ v :: s.data.toList.drop (i + 1) := List.set_eq_take_append_cons_drop.trans (if_pos hl)
  have e2 : s.data.toList = s.data.toList.take i ++ s[i] :: s.data.toList.drop (i + 1) := by
    have h2 : s.data.toList.drop i = s[i] :: s.data.toList.drop (i + 1) := by rw [List.drop_eq_getElem_cons hl]; rfl
    rw [← h2, List.take_append_drop]
  rw [Bool.eq_iff_iff, beq_iff_eq, decide_eq_true_iff, e1]
  conv => lhs; rhs; rw [e2]
  exact turned _ _ _ _

theorem xor_back (x y : UInt8) : x ^^^ y = x ↔ y = 0 := by
  constructor
  · intro h
    have : x ^^^ (x ^^^ y) = 0 := by rw [h, UInt8.xor_self]
    rwa [← UInt8.xor_assoc, UInt8.xor_self, UInt8.zero_xor] at this
  · rintro rfl; exact UInt8.xor_zero
/-- 'x ^ y' of two bytes. -/
theorem xor_u8 (x : UInt8) (y : Int) (h0 : 0 ≤ y) (h1 : y ≤ 255) : ∃ v : UInt8, bits .xor .u8 (x.toNat : Int) y = (v.toNat : Int) ∧ (v = x ↔ y = 0) := by
  obtain ⟨n, rfl⟩ := Int.eq_ofNat_of_zero_le h0
  have hn : n < 256 := by omega
  refine ⟨x ^^^ UInt8.ofNat n, ?_, ?_⟩
  · have hx := UInt8.toNat_lt x
    have hx2 : x.toNat < 2 ^ 8 := hx
    have hn2 : n < 2 ^ 8 := hn
    have hxn : x.toNat ^^^ n < 2 ^ 8 := Nat.xor_lt_two_pow hx2 hn2
    rw [UInt8.toNat_xor, UInt8.toNat_ofNat', Nat.mod_eq_of_lt hn2]
    simp only [bits, BitVec.ofInt_natCast, BitVec.toNat_xor, BitVec.toNat_ofNat]
    show IntKind.u8.wrap ((x.toNat % 2 ^ 8 ^^^ n % 2 ^ 8 : Nat) : Int) = _
    rw [Nat.mod_eq_of_lt hx2, Nat.mod_eq_of_lt hn2]
    exact IntWalk.u8_in _ (by omega)
  · rw [xor_back]
    constructor
    · intro e
      have := congrArg UInt8.toNat e
      rw [UInt8.toNat_ofNat', Nat.mod_eq_of_lt hn] at this
      simp at this
      omega
    · intro e
      have : n = 0 := by omega
      subst this; rfl

/-- Two neighbours that have changed places. -/
def swl (s : ByteArray) (i : Nat) (hi : i < s.size) (hj : i + 1 < s.size) : List UInt8 := (s.data.toList.set i s[i + 1]).set (i + 1) s[i]
theorem swl_length (s : ByteArray) (i : Nat) (hi : i < s.size) (hj : i + 1 < s.size) : (swl s i hi hj).length = s.size := by simp [swl]
theorem swl_is (s : ByteArray) (i : Nat) (hi : i < s.size) (hj : i + 1 < s.size) : (sAll 0 (swl s i hi hj) == sAll 0 s.data.toList) = ((s[i].toNat : Int) == (s[i + 1].toNat : Int)) := by
  have hl : i + 1 < s.data.toList.length := by simpa using hj
  have e2 : s.data.toList = s.data.toList.take i ++ s[i] :: s[i + 1] :: s.data.toList.drop (i + 2) := by
    have h3 : s.data.toList.drop (i + 1) = s[i + 1] :: s.data.toList.drop (i + 2) := by rw [List.drop_eq_getElem_cons hl]; rfl
    have h2 : s.data.toList.drop i = s[i] :: s.data.toList.drop (i + 1) := by rw [List.drop_eq_getElem_cons (by omega)]; rfl
    rw [← h3, ← h2, List.take_append_drop]
  have e1 : swl s i hi hj = s.data.toList.take i ++ s[i + 1] :: s[i] :: s.data.toList.drop (i + 2) := by
    unfold swl
    generalize hx : s[i] = x at *
    generalize hy : s[i + 1] = y at *
    have ht : (s.data.toList.take i).length = i := by rw [List.length_take]; omega
    generalize s.data.toList.take i = p at *
    generalize s.data.toList.drop (i + 2) = q at *
    rw [e2]
    subst ht
    rw [List.set_append_right (h := Nat.le_refl _), Nat.sub_self, List.set_cons_zero, List.set_append_right (h := by omega), show p.length + 1 - p.length = 1 from by omega]
    rfl
  rw [Bool.eq_iff_iff, beq_iff_eq, beq_iff_eq, e1]
  conv => lhs; rhs; rw [e2]
  rw [changed]
  constructor
  · intro e; rw [e]
  · intro e; exact u8_eq e

/-- The row of block b holds the bytes l, and can be told as a string. -/
def Good (b n cap : Nat) (l : List UInt8) (w : World) : Prop :=
  (convert 29 9 (.slice (some ⟨b, 0, none⟩) n cap)).run Try.prog w = .ok (.string ⟨l.toArray⟩) w ∧ (∀ j (hj : j < l.length), w.cell? ⟨b, j, none⟩ = some (.int .u8 (l[j].toNat : Int))) ∧ b < w.heap.size
theorem good_of {b n cap : Nat} {l : List UInt8} {w : World} (hl : l.length = n) (hc : ∀ j (hj : j < l.length), w.cell? ⟨b, j, none⟩ = some (.int .u8 (l[j].toNat : Int))) (hb : b < w.heap.size) : Good b n cap l w := ⟨str_of w b n cap l hl hc, hc, hb⟩
theorem good_drew {b n cap : Nat} {l : List UInt8} {w : World} (hl : l.length = n) (h : Good b n cap l w) : Good b n cap l w.drew := good_of hl h.2.1 h.2.2
theorem good_below {b n cap : Nat} {l : List UInt8} {w w' : World} (hl : l.length = n) (h : Good b n cap l w) (hb : Below w.heap.size w w') : Good b n cap l w' :=
  good_of hl (fun j hj => (hb.cell (p := ⟨b, j, none⟩) h.2.2).trans (h.2.1 j hj)) (Nat.lt_of_lt_of_le h.2.2 hb.size)

theorem two_sets (s : ByteArray) (i : Nat) (hi : i < s.size) (hj : i + 1 < s.size) (b cap : Nat) (w : World) (hbl : b < w.heap.size) (hall : ∀ j (h : j < s.size), w.cell? ⟨b, j, none⟩ = some (.int .u8 (s[j].toNat : Int))) (w' : World)
    (hw : ((w.setCell ⟨b, i, none⟩ (.int .u8 (s[i + 1].toNat : Int))).setCell ⟨b, i + 1, none⟩ (.int .u8 (s[i].toNat : Int))).drew = w' ∨ ((w.setCell ⟨b, i + 1, none⟩ (.int .u8 (s[i].toNat : Int))).setCell ⟨b, i, none⟩ (.int .u8 (s[i + 1].toNat : Int))).drew = w') :
    Good b s.size cap (swl s i hi hj) w' ∧ (b = b → ∀ B, B ≤ b → Below B w w') := by
  have hg : ∀ (j : Nat) (hlj : j < (swl s i hi hj).length), (some (Value.int .u8 ((swl s i hi hj)[j].toNat : Int))) = if j = i + 1 then some (.int .u8 (s[i].toNat : Int)) else if j = i then some (.int .u8 (s[i + 1].toNat : Int)) else w.cell? ⟨b, j, none⟩ := by
    intro j hlj
    have hj' : j < s.size := by rw [swl_length] at hlj; exact hlj
    simp only [swl, List.getElem_set]
    by_cases e : i + 1 = j
    · subst e; simp
    · rw [if_neg e, if_neg (Ne.symm e)]
      by_cases e2 : i = j
      · subst e2; simp
      · rw [if_neg e2, if_neg (Ne.symm e2), hall j hj']; rfl
  rcases hw with rfl | rfl
  · refine ⟨good_of (swl_length ..) (fun j hlj => ?_) (by simpa [World.setCell, World.drew] using hbl), fun _ B hB => ((Below.refl _ _).setCell hB _ |>.setCell hB _).drew⟩
    show (((w.setCell _ _).setCell _ _)).cell? _ = _
    rw [hg j hlj]
    rw [cell_set _ b (i + 1) _ (.int .u8 (s[i + 1].toNat : Int)) (by rw [cell_set _ b i _ _ (hall i hi), if_neg (by omega)]; exact hall _ hj) j, cell_set _ b i _ _ (hall i hi) j]
  · refine ⟨good_of (swl_length ..) (fun j hlj => ?_) (by simpa [World.setCell, World.drew] using hbl), fun _ B hB => ((Below.refl _ _).setCell hB _ |>.setCell hB _).drew⟩
    show (((w.setCell _ _).setCell _ _)).cell? _ = _
    rw [hg j hlj]
    rw [cell_set _ b i _ (.int .u8 (s[i].toNat : Int)) (by rw [cell_set _ b (i + 1) _ _ (hall _ hj), if_neg (by omega)]; exact hall _ hi) j, cell_set _ b (i + 1) _ _ (hall _ hj) j]
    by_cases e : j = i + 1
    · rw [if_pos e, if_neg (by omega), if_pos e]
    · rw [if_neg e, if_neg e]

theorem set_below (s : ByteArray) (w : World) (i : Nat) (u : Value) : Below w.heap.size w ((bytesAt w s).setCell ⟨w.heap.size, i, none⟩ u) := (bytesAt_below s w).setCell (Nat.le_refl _) u

set_option maxHeartbeats 400000 in
theorem finds_last (s : ByteArray) (i : Nat) (a : Int) (by_ : Int) (w : World) (h : s.size ≤ 2000) (hi : i < s.size) (ha0 : 0 ≤ a) (ha1 : a ≤ 65535) (b0 : 0 ≤ by_) (b1 : by_ ≤ 255) (hm : a % (s.size : Int) = i) (hlast : s.size ≤ i + 1) :
    Calls Try.prog 4 #[.string s, .int .u16 a, .int .u8 by_] w fun e w' => e = .returned (.bool true) ∧ Below w.heap.size w w' := by
  have hs : s.size ≤ maxLen := by unfold maxLen; omega
  have hne : s.toList.isEmpty = false := by
    rw [Lib.toList_data, List.isEmpty_eq_false_iff]
    intro e
    have hl : s.data.toList.length = s.size := by simp
    rw [e] at hl
    simp only [List.length_nil] at hl
    omega
  have hne2 : (s.toList = []) = False := by
    rw [eq_iff_iff]
    constructor
    · intro e; rw [e] at hne; cases hne
    · exact False.elim
  have hd : decide ((2000 : Int) < s.size) = false := by simp; omega
  have hcv := run_bytesAt s
  have hcell := bytesAt_cell' s w i hi
  have hfz := bytesAt_frozen s w i hi
  obtain ⟨v, hx, hvx⟩ := xor_u8 s[i] by_ b0 b1
  have hstr := turned_str s w i v hi (grownCap w s.size 0 5)
  have HT : Hid ((sAll 0 (s.data.toList.set i v) == sAll 0 s.data.toList) = (by_ == 0)) := by
    unfold Hid
    rw [turned_is s i v hi, Bool.eq_iff_iff, decide_eq_true_iff, beq_iff_eq]; exact hvx
  have HV := Lib.hid hvx
  clear hvx
  have hge : (s.size : Int) ≤ (i : Int) + 1 := by omega
  go_enter Try.func4, Try.ntmps4
  go_wp2_with fail
  refine (of_is _ _ _ (by show (s.data.toList.set i v).toArray.size ≤ _; simpa using hs) rfl).mono ?_; rintro e w' ⟨rfl, rfl⟩
  go_wp2_with fail
  refine (of_any _ _ hs).mono ?_; rintro e w' ⟨rfl, rfl⟩
  have HT' := HT.out
  go_wp2_with fail
  refine (works7 _).mono ?_; rintro e w1 ⟨rfl, hb⟩
  go_wp2_with fail
  go_ret
  exact ⟨rfl, size_le_trans (set_below s w i _) hb⟩

set_option maxHeartbeats 3000000 in
theorem finds_mid (s : ByteArray) (i : Nat) (a : Int) (by_ : Int) (w : World) (h : s.size ≤ 2000) (hi : i < s.size) (ha0 : 0 ≤ a) (ha1 : a ≤ 65535) (b0 : 0 ≤ by_) (b1 : by_ ≤ 255) (hm : a % (s.size : Int) = i) (hlast : i + 1 < s.size) :
    Calls Try.prog 4 #[.string s, .int .u16 a, .int .u8 by_] w fun e w' => e = .returned (.bool true) ∧ Below w.heap.size w w' := by
  have hs : s.size ≤ maxLen := by unfold maxLen; omega
  have hne : s.toList.isEmpty = false := by
    rw [Lib.toList_data, List.isEmpty_eq_false_iff]
    intro e
    have hl : s.data.toList.length = s.size := by simp
    rw [e] at hl
    simp only [List.length_nil] at hl
    omega
  have hne2 : (s.toList = []) = False := by
    rw [eq_iff_iff]
    constructor
    · intro e; rw [e] at hne; cases hne
    · exact False.elim
  have hd : decide ((2000 : Int) < s.size) = false := by simp; omega
  have hcv := run_bytesAt s w
  have hcell := bytesAt_cell' s w i hi
  have hfz := bytesAt_frozen s w i hi
  obtain ⟨v, hx, hvx⟩ := xor_u8 s[i] by_ b0 b1
  have hstr := turned_str s w i v hi (grownCap w s.size 0 5)
  have HT : Hid ((sAll 0 (s.data.toList.set i v) == sAll 0 s.data.toList) = (by_ == 0)) := by
    unfold Hid
    rw [turned_is s i v hi, Bool.eq_iff_iff, decide_eq_true_iff, beq_iff_eq]; exact hvx
  have HV := Lib.hid hvx
  clear hvx
  have hge : (i : Int) + 1 < (s.size : Int) := by omega
  go_enter Try.func4, Try.ntmps4
  go_wp2_with fail
  refine (of_is _ _ _ (by show (s.data.toList.set i v).toArray.size ≤ _; simpa using hs) rfl).mono ?_; rintro e w' ⟨rfl, rfl⟩
  go_wp2_with fail
  refine (of_any _ _ hs).mono ?_; rintro e w' ⟨rfl, rfl⟩
  have HT' := HT.out
  go_wp2_with fail
  have hb0 := set_below s w i (.int .u8 (v.toNat : Int))
  generalize (bytesAt w s).setCell ⟨w.heap.size, i, none⟩ (.int .u8 (v.toNat : Int)) = w1 at *
  clear hcv hcell hfz hx hstr HV HT' HT
  have hcv := run_bytesAt s w1
  have hc0 := bytesAt_cell' s w1 i hi
  have hc1 := bytesAt_cell' s w1 (i + 1) hlast
  have hf0 := bytesAt_frozen s w1 i hi
  have hf1 := bytesAt_frozen s w1 (i + 1) hlast
  go_simp
  go_wp2_with fail
  have hall := bytesAt_cell' s w1
  have hbl : w1.heap.size < (bytesAt w1 s).heap.size := by unfold bytesAt; simp
  have hb2 := bytesAt_below s w1
  generalize (bytesAt w1 s) = w2 at *
  have HALL := Lib.hid hall
  clear hall hcv
  have g0 : (0 : Int) ≤ (i : Int) := by omega
  have g1 : (i : Int) < (s.size : Int) := by omega
  have g2 : (0 : Int) ≤ (i : Int) + 1 := by omega
  have gw : IntKind.i64.wrap ((i : Int) + 1) = (i : Int) + 1 := IntWalk.i64_in _ (by omega)
  have gn : ((i : Int) + 1).toNat = i + 1 := by omega
  go_region_held3 (fun _ => True) (trivial) (fail)
  all_goals
    generalize hW : World.drew _ = w3
    obtain ⟨HG, HB⟩ := two_sets s i hi hlast w1.heap.size (grownCap w1 s.size 0 5) w2 hbl HALL.out w3 (by first | exact Or.inl hW | exact Or.inr hW)
    have hb3 := HB rfl _ (Nat.le_refl _)
    clear hW HB hc0 hc1 hf0 hf1
    have he := swl_is s i hi hlast
    have hsl := swl_length s i hi hlast
    have HSL := Lib.hid hsl
    clear hsl
    generalize swl s i hi hlast = l at *
    go_wp2_with fail
    have HG' := HG
    unfold Good at HG
    go_region_held3 (fun w' => (convert 29 9 (.slice (some ⟨w1.heap.size, 0, none⟩) s.size (grownCap w1 s.size 0 5))).run Try.prog w' = .ok (.string ⟨l.toArray⟩) w' ∧ (∀ j (hj : j < l.length), w'.cell? ⟨w1.heap.size, j, none⟩ = some (.int .u8 (l[j].toNat : Int))) ∧ w1.heap.size < w'.heap.size)
      (first | exact good_drew HSL.out ‹Good _ _ _ _ _› | exact good_below HSL.out (by assumption) hb10 | trivial)
      (first | (go_at_call 12; refine (of_is _ _ _ (by show l.length ≤ _; rw [HSL.out]; exact hs) rfl).mono ?_; rintro e w' ⟨rfl, rfl⟩) | (go_at_call 12; refine (of_any _ _ hs).mono ?_; rintro e w' ⟨rfl, rfl⟩) | (go_at_call 10; refine (works7 _).mono ?_; rintro e w10 ⟨rfl, hb10⟩))
    all_goals
      go_wp2_with fail
      go_ret
      exact ⟨rfl, size_le_trans hb0 (hb2.trans (hb3.trans ((Below.refl _ w3).drew.trans (hb10.mono (Nat.le_trans hb2.size hb3.size)))))⟩

theorem finds_all (s : ByteArray) (a by_ : Int) (w : World) (ha0 : 0 ≤ a) (ha1 : a ≤ 65535) (b0 : 0 ≤ by_) (b1 : by_ ≤ 255) :
    Calls Try.prog 4 #[.string s, .int .u16 a, .int .u8 by_] w fun e w' => e = .returned (.bool true) ∧ Below w.heap.size w w' := by
  by_cases h : 2000 < s.size
  · exact finds_big s a by_ w h
  · by_cases h0 : s.size = 0
    · exact finds_empty s a by_ w h0
    · have m0 : 0 ≤ a % (s.size : Int) := Int.emod_nonneg _ (by omega)
      have m1 : a % (s.size : Int) < s.size := Int.emod_lt_of_pos _ (by omega)
      obtain ⟨i, hm⟩ := Int.eq_ofNat_of_zero_le m0
      have hi : i < s.size := by omega
      by_cases hl : i + 1 < s.size
      · exact finds_mid s i a by_ w (by omega) hi ha0 ha1 b0 b1 hm hl
      · exact finds_last s i a by_ w (by omega) hi ha0 ha1 b0 b1 hm (by omega)

end Go.Proofs.Ytgoeabkoljabkaa
