/- Walks of Read, of both. -/
import Derived.Test.YtgoeabkoljabkaaRecB
import Derived.Deep.CutRange
namespace Go.Proofs.Ytgoeabkoljabkaa
open Go.RowKit
attribute [local go_sem ↓] Go.wp_at_zero Go.wp_at_succ

def rdW (r : It × Nat × Int) : Value := .tuple #[.agg #[.int .i64 r.1.1, .int .i64 r.1.2.1, .string ⟨r.1.2.2.toArray⟩], .int .i64 (r.2.1 : Int), .int .i64 r.2.2]
def ReadPost (s : ByteArray) (w : World) (e : Ending) (w' : World) : Prop := e = .returned (rdW (readL s.data.toList)) ∧ Below w.heap.size w w'
theorem len_l (s : ByteArray) : s.data.toList.length = s.size := by simp
theorem rd_none {l : List UInt8} {c : Int} (h : readL l = none_ c) : rdW (readL l) = .tuple #[.agg #[.int .i64 0, .int .i64 0, .string ⟨#[]⟩], .int .i64 0, .int .i64 c] := by rw [h]; rfl
theorem head_of (s : ByteArray) (h : 0 < s.size) : s.data.toList.headD 0 = s[0] := by
  have hl : 0 < s.data.toList.length := by rw [len_l]; exact h
  cases hs : s.data.toList with
  | nil => rw [hs] at hl; simp at hl
  | cons c l =>
    show c = s.data[0]
    have : s.data.toList[0]'hl = c := by simp [hs]
    rw [← this]; rfl
theorem kd_of (s : ByteArray) (h : 1 < s.size) : (s[1].toNat : Int) = kdL s.data.toList := by
  unfold kdL
  have hl : 1 < s.data.toList.length := by rw [len_l]; exact h
  rw [List.drop_eq_getElem_cons hl]
  rfl
theorem told_at (s : ByteArray) (w : World) : Calls Try.prog 37 #[.string (s.extract 2 8)] w fun e w' => e = .returned (.int .i64 (atL s.data.toList)) ∧ w = w' := by
  have := told_any (s.extract 2 8) w (by rw [ByteArray.size_extract]; omega)
  rw [Lib.extract_data] at this
  exact this
theorem told_ln (s : ByteArray) (w : World) : Calls Try.prog 37 #[.string (s.extract 8 10)] w fun e w' => e = .returned (.int .i64 (lnL s.data.toList : Int)) ∧ w = w' := by
  have := told_any (s.extract 8 10) w (by rw [ByteArray.size_extract]; omega)
  rw [Lib.extract_data] at this
  unfold lnL
  rw [Int.toNat_of_nonneg (num4_nn _).1]
  exact this
theorem rnum_at (s : ByteArray) (w : World) : Calls Try.prog 38 #[.string (s.extract 2 8)] w fun e w' => e = .returned (.int .i64 (atL s.data.toList)) ∧ w = w' := by
  have := rnumber_any (s.extract 2 8) w (by rw [ByteArray.size_extract]; omega)
  rw [Lib.extract_data] at this
  exact this
theorem rnum_ln (s : ByteArray) (w : World) : Calls Try.prog 38 #[.string (s.extract 8 10)] w fun e w' => e = .returned (.int .i64 (lnL s.data.toList : Int)) ∧ w = w' := by
  have := rnumber_any (s.extract 8 10) w (by rw [ByteArray.size_extract]; omega)
  rw [Lib.extract_data] at this
  unfold lnL
  rw [Int.toNat_of_nonneg (num4_nn _).1]
  exact this
theorem ln_lt (l : List UInt8) : lnL l < 65536 := by
  unfold lnL
  have h := num4_nn ((l.drop 8).take 2)
  have hl : ((l.drop 8).take 2).length ≤ 2 := by rw [List.length_take]; omega
  have h2 : (256 : Int) ^ ((l.drop 8).take 2).length ≤ 65536 := by
    rcases (by omega : ((l.drop 8).take 2).length = 0 ∨ ((l.drop 8).take 2).length = 1 ∨ ((l.drop 8).take 2).length = 2) with h | h | h <;> rw [h] <;> decide
  omega

theorem rd_empty {l : List UInt8} (h : l = []) : readL l = none_ 13 := by unfold readL; rw [if_pos h]
theorem rd_form {l : List UInt8} (h : l ≠ []) (h1 : l.headD 0 ≠ 87) : readL l = none_ 3 := by unfold readL; rw [if_neg h, if_pos h1]
theorem rd_short {l : List UInt8} (h : l ≠ []) (h1 : l.headD 0 = 87) (h2 : l.length < 10) : readL l = none_ 13 := by unfold readL; rw [if_neg h, if_neg (fun e => e h1), if_pos h2]
theorem rd_chk {l : List UInt8} (h1 : l.headD 0 = 87) (h2 : 10 ≤ l.length) (h3 : chk (kdL l) (atL l) 0 ≠ 0) : readL l = none_ (chk (kdL l) (atL l) 0) := by
  unfold readL; rw [if_neg (by rintro rfl; simp at h2), if_neg (fun e => e h1), if_neg (by omega), if_pos h3]
theorem rd_big {l : List UInt8} (h1 : l.headD 0 = 87) (h2 : 10 ≤ l.length) (h3 : chk (kdL l) (atL l) 0 = 0) (h4 : 4096 < lnL l) : readL l = none_ 5 := by
  unfold readL; rw [if_neg (by rintro rfl; simp at h2), if_neg (fun e => e h1), if_neg (by omega), if_neg (by simp [h3]), if_pos h4]
theorem rd_cut {l : List UInt8} (h1 : l.headD 0 = 87) (h2 : 10 ≤ l.length) (h3 : chk (kdL l) (atL l) 0 = 0) (h4 : lnL l ≤ 4096) (h5 : l.length < 14 + lnL l) : readL l = none_ 13 := by
  unfold readL; rw [if_neg (by rintro rfl; simp at h2), if_neg (fun e => e h1), if_neg (by omega), if_neg (by simp [h3]), if_neg (by omega), if_pos h5]
theorem rd_sum {l : List UInt8} (h1 : l.headD 0 = 87) (h3 : chk (kdL l) (atL l) 0 = 0) (h4 : lnL l ≤ 4096) (h5 : 14 + lnL l ≤ l.length) (h6 : fitsB (l.take (14 + lnL l)) = false) : readL l = none_ 4 := by
  unfold readL; rw [if_neg (by rintro rfl; simp at h5), if_neg (fun e => e h1), if_neg (by omega), if_neg (by simp [h3]), if_neg (by omega), if_neg (by omega), if_pos h6]
theorem rd_ok {l : List UInt8} (h1 : l.headD 0 = 87) (h3 : chk (kdL l) (atL l) 0 = 0) (h4 : lnL l ≤ 4096) (h5 : 14 + lnL l ≤ l.length) (h6 : fitsB (l.take (14 + lnL l)) = true) : readL l = ((kdL l, atL l, (l.drop 10).take (lnL l)), 14 + lnL l, 0) := by
  unfold readL; rw [if_neg (by rintro rfl; simp at h5), if_neg (fun e => e h1), if_neg (by omega), if_neg (by simp [h3]), if_neg (by omega), if_neg (by omega), if_neg (by simp [h6])]

theorem Whole.drew_ {w : World} {g : Nat} {t : TypeId} {cs : Array Value} (h : Whole w g t cs) : Whole w.drew g t cs := h
theorem Whole.at_ {w : World} {g : Nat} {t : TypeId} {cs : Array Value} (h : w.heap.size = g) : Whole (w.alloc (.cells cs t)) g t cs := by subst h; exact Whole.new w t cs

theorem fits_at (s : ByteArray) (n : Nat) (w : World) (hs : s.size ≤ 10000) : Calls Try.prog 19 #[.string (s.extract 0 (10 + n + 4))] w fun e w' => e = .returned (.bool (fitsB (s.data.toList.take (14 + n)))) ∧ Below w.heap.size w w' := by
  have := fits_u (s.extract 0 (10 + n + 4)) w (by rw [ByteArray.size_extract]; unfold maxLen; omega)
  rw [Lib.extract_data, List.drop_zero, show 10 + n + 4 - 0 = 14 + n from by omega] at this
  exact this
theorem Whole.set3 {w : World} {g : Nat} {t : TypeId} {a b c : Value} (h : Whole w g t #[a, b, c]) (x y z : Value) : Whole (((w.setCell ⟨g, 0, none⟩ x).setCell ⟨g, 1, none⟩ y).setCell ⟨g, 2, none⟩ z) g t #[x, y, z] := ((h.setCell 0 x).setCell 1 y).setCell 2 z
theorem below_set {w w1 : World} {B g : Nat} (h : Below B w w1) (hg : B ≤ g) (i : Nat) (x : Value) : Below B w (w1.setCell ⟨g, i, none⟩ x) := by
  have : B ≤ (⟨g, i, none⟩ : Addr).block := hg
  exact h.setCell this x
theorem below_set3 {w w1 : World} {B g : Nat} (h : Below B w w1) (hg : B ≤ g) (x y z : Value) : Below B w (((w1.setCell ⟨g, 0, none⟩ x).setCell ⟨g, 1, none⟩ y).setCell ⟨g, 2, none⟩ z) := below_set (below_set (below_set h hg 0 x) hg 1 y) hg 2 z
theorem Whole.setOther {w : World} {g g' : Nat} {t : TypeId} {cs : Array Value} (h : Whole w g t cs) (hg : g ≠ g') (i : Nat) (x : Value) : Whole (w.setCell ⟨g', i, none⟩ x) g t cs := (Below.heap_setCell w ⟨g', i, none⟩ x g hg).trans h
theorem Whole.three {w : World} {g : Nat} {t : TypeId} {a b c : Value} (h : Whole w g t #[a, b, c]) : w.cell? ⟨g, 0, none⟩ = some a ∧ w.cell? ⟨g, 1, none⟩ = some b ∧ w.cell? ⟨g, 2, none⟩ = some c := ⟨h.cell 0, h.cell 1, h.cell 2⟩

theorem nonempty_facts (s : ByteArray) (h : 0 < s.size) : s.toList.isEmpty = false ∧ (s.toList = []) = False := by
  have hne : s.toList.isEmpty = false := by
    rw [Lib.toList_data, List.isEmpty_eq_false_iff]
    intro e
    have hl := len_l s
    rw [e] at hl
    simp only [List.length_nil] at hl
    omega
  refine ⟨hne, ?_⟩
  rw [eq_iff_iff]
  exact ⟨fun e => by (rw [e] at hne; cases hne), fun f => f.elim⟩

set_option maxHeartbeats 1000000 in
theorem read_s1 (s : ByteArray) (w : World) (h : s.size = 0) :
    Calls Try.prog 22 #[.string s] w fun e w' => ReadPost s w e w' := by
  unfold ReadPost
  have he : s = ⟨#[]⟩ := by
    apply ByteArray.ext
    exact Array.eq_empty_of_size_eq_zero h
  subst he
  rw [rd_none (rd_empty rfl)]
  go_enter Try.func22, Try.ntmps22
  go_wp2
  exact bodyPost_ret (v := rdW (none_ 13)) (by simp [results, Try.results22, go_sem]; rfl) rfl ⟨rfl, (Below.refl _ _).alloc (Nat.le_refl _) _⟩

set_option maxHeartbeats 1000000 in
theorem read_s2 (s : ByteArray) (w : World) (h : 0 < s.size) (h1 : s[0] ≠ 87) :
    Calls Try.prog 22 #[.string s] w fun e w' => ReadPost s w e w' := by
  unfold ReadPost
  obtain ⟨hne, hne2⟩ := nonempty_facts s h
  rw [rd_none (rd_form (by intro e; have := len_l s; rw [e] at this; simp at this; omega) (by rw [head_of s h]; exact h1))]
  have hd : ((s[0].toNat : Int) != 87) = true := by
    rw [bne_iff_ne]; intro e; exact h1 (UInt8.toNat_inj.1 (by show s[0].toNat = 87; omega))
  go_enter Try.func22, Try.ntmps22
  go_wp2
  exact bodyPost_ret (v := rdW (none_ 3)) (by simp [results, Try.results22, go_sem]; rfl) rfl ⟨rfl, (Below.refl _ _).alloc (Nat.le_refl _) _⟩

set_option maxHeartbeats 1000000 in
theorem read_s7 (s : ByteArray) (w : World) (hs : s.size ≤ 10000) (h : 10 ≤ s.size) (h1 : s[0] = 87) :
    Calls Try.prog 22 #[.string s] w fun e w' => ReadPost s w e w' := by
  unfold ReadPost
  obtain ⟨hne, hne2⟩ := nonempty_facts s (by omega)
  have hd : ((s[0].toNat : Int) != 87) = false := by rw [h1]; decide
  have i1 : 1 < s.size := by omega
  have ek := kd_of s i1
  have k0 := (u8_le s[1]).1
  have k1 := (u8_le s[1]).2
  have ew : IntKind.i64.wrap (kdL s.data.toList) = kdL s.data.toList := IntWalk.i64_in _ (by omega)
  have j1 : (1 : Int) < (s.size : Int) := by omega
  have j10 : (10 : Int) ≤ (s.size : Int) := by omega
  have sl1 : ∀ w, (Instr.slice 9 (.string s) (some (.int .i64 2)) (some (.int .i64 8)) none).run Try.prog w = .ok (.string (s.extract 2 8)) w := fun w => run_slice_string w 9 s .i64 .i64 2 8 Try.underlying9 (by omega) (by omega) (by omega)
  have sl2 : ∀ w, (Instr.slice 9 (.string s) (some (.int .i64 8)) (some (.int .i64 10)) none).run Try.prog w = .ok (.string (s.extract 8 10)) w := fun w => run_slice_string w 9 s .i64 .i64 8 10 Try.underlying9 (by omega) (by omega) (by omega)
  have ekk : IntKind.i64.wrap (s[1].toNat : Int) = kdL s.data.toList := by rw [ek]; exact ew
  have hl0 : s.data.toList.headD 0 = 87 := by rw [head_of s (by omega)]; exact h1
  have hl1 : 10 ≤ s.data.toList.length := by rw [len_l]; exact h
  go_enter Try.func22, Try.ntmps22
  go_upto_region 7 with fail
  go_cut [5] from 23 to 29 (fun p wx => p = .pointer (some ⟨w.heap.size + 1, 0, none⟩) ∧ Whole wx w.heap.size 36 #[.int .i64 0, .int .i64 0, .string ⟨#[]⟩] ∧ Whole wx (w.heap.size + 1) 36 #[.int .i64 (kdL s.data.toList), .int .i64 (atL s.data.toList), .string ⟨#[]⟩] ∧ Below w.heap.size w wx ∧ w.heap.size + 2 ≤ wx.heap.size)
  case first =>
    go_region_held3 (fun _ => True) (trivial) (first | (go_at_call 37; refine (told_at s _).mono ?_; rintro e w' ⟨rfl, rfl⟩))
    all_goals
      go_wp2_with fail
      go_meet
      exact ⟨rfl, ((Whole.new w 36 _).alloc _).drew_, (Whole.at_ (by simp)).drew_, (((Below.refl _ w).alloc (Nat.le_refl _) _).alloc (by simp) _).drew, by simp [World.drew]⟩
  case rest =>
    clear sl1 ek ew ekk hd hne hne2 k0 k1 i1 j1
    obtain ⟨rfl, hA, hB, hb, hz⟩ := hcut
    have j10 : (10 : Int) ≤ (s.size : Int) := by omega
    generalize hkd : kdL s.data.toList = kd at *
    generalize had : atL s.data.toList = ad at *
    have b0 := hB.cell 0
    have b1 := hB.cell 1
    have b2 := hB.cell 2
    simp only [List.getElem?_toArray, List.getElem?_cons_zero, List.getElem?_cons_succ] at b0 b1 b2
    go_wp2_with fail
    refine (told_ln s _).mono ?_; rintro e w' ⟨rfl, rfl⟩
    have hln := ln_lt s.data.toList
    go_wp2_with fail
    refine (check_any kd ad ⟨#[]⟩ _).mono ?_; rintro e w1 ⟨rfl, hb1⟩
    rw [show (⟨#[]⟩ : ByteArray).size = 0 from rfl]
    have hA1 := hA.below hb1 (by omega)
    have hB1 := hB.below hb1 (by omega)
    have hbb := hb.trans (hb1.mono (by omega))
    have hz1 := Nat.le_trans hz hb1.size
    clear hA hB hb hz hb1 b0 b1 b2
    have a0 := hA1.cell 0
    have a1 := hA1.cell 1
    have a2 := hA1.cell 2
    have f0 := hA1.frozen 0
    have f1 := hA1.frozen 1
    have f2 := hA1.frozen 2
    have b0 := hB1.cell 0
    have b1 := hB1.cell 1
    have b2 := hB1.cell 2
    have e2 := hB1.frozen 2
    simp only [List.getElem?_toArray, List.getElem?_cons_zero, List.getElem?_cons_succ] at a0 a1 a2 b0 b1 b2
    have HK := Lib.hid hkd
    have HA := Lib.hid had
    have HL0 := Lib.hid hl0
    have HL1 := Lib.hid hl1
    clear hkd had hl0 hl1 sl2
    generalize hn : lnL s.data.toList = n at *
    have HN := Lib.hid hn
    clear hn
    by_cases hc : chk kd ad 0 = 0
    · have hcb : (chk kd ad 0 != 0) = false := by simp [hc]
      have HC := Lib.hid hc
      clear hc
      by_cases h4 : 4096 < n
      · have h4' : (4096 : Int) < (n : Int) := by omega
        go_wp2_with fail
        have hW := hA1.set3 (.int .i64 0) (.int .i64 0) (.string ⟨#[]⟩)
        have hBW := below_set3 hbb (Nat.le_refl _) (.int .i64 0) (.int .i64 0) (.string ⟨#[]⟩)
        obtain ⟨d0, d1, d2⟩ := hW.three
        have HR := rd_big HL0.out HL1.out (by rw [HK.out, HA.out]; exact HC.out) (by rw [HN.out]; exact h4)
        exact bodyPost_ret (v := rdW (none_ 5)) (by simp [results, Try.results22, go_sem, d0, d1, d2]; rfl) rfl ⟨by rw [HR], hBW⟩
      · have h4' : ¬ (4096 : Int) < (n : Int) := by omega
        by_cases h5 : s.size < 14 + n
        · have h5' : (s.size : Int) - 10 - 4 < (n : Int) := by omega
          go_wp2_with fail
          have hW := hA1.set3 (.int .i64 0) (.int .i64 0) (.string ⟨#[]⟩)
          have hBW := below_set3 hbb (Nat.le_refl _) (.int .i64 0) (.int .i64 0) (.string ⟨#[]⟩)
          obtain ⟨d0, d1, d2⟩ := hW.three
          have HR := rd_cut HL0.out HL1.out (by rw [HK.out, HA.out]; exact HC.out) (by rw [HN.out]; omega) (by rw [HN.out, len_l]; exact h5)
          exact bodyPost_ret (v := rdW (none_ 13)) (by simp [results, Try.results22, go_sem, d0, d1, d2]; rfl) rfl ⟨by rw [HR], hBW⟩
        · have h5' : ¬ (s.size : Int) - 10 - 4 < (n : Int) := by omega
          go_wp2_with fail
          refine (fits_at s n _ hs).mono ?_; rintro e w2 ⟨rfl, hb2⟩
          have hA2 := hA1.below hb2 (by omega)
          have hB2 := hB1.below hb2 (by omega)
          have hbb2 := hbb.trans (hb2.mono (by omega))
          clear hA1 hB1 hbb a0 a1 a2 b0 b1 b2 f0 f1 f2 e2
          obtain ⟨a0, a1, a2⟩ := hA2.three
          obtain ⟨b0, b1, b2⟩ := hB2.three
          have f0 := hA2.frozen 0
          have f1 := hA2.frozen 1
          have f2 := hA2.frozen 2
          have e2 := hB2.frozen 2
          generalize hF : fitsB (s.data.toList.take (14 + n)) = F at *
          have HF := Lib.hid hF
          clear hF
          cases F with
          | false =>
            have hA1 := hA2
            have hbb := hbb2
            go_wp2_with fail
            have hW := hA1.set3 (.int .i64 0) (.int .i64 0) (.string ⟨#[]⟩)
            have hBW := below_set3 hbb (Nat.le_refl _) (.int .i64 0) (.int .i64 0) (.string ⟨#[]⟩)
            obtain ⟨d0, d1, d2⟩ := hW.three
            have HR := rd_sum HL0.out (by rw [HK.out, HA.out]; exact HC.out) (by rw [HN.out]; omega) (by rw [HN.out, len_l]; omega) (by rw [HN.out]; exact HF.out)
            exact bodyPost_ret (v := rdW (none_ 4)) (by simp [results, Try.results22, go_sem, d0, d1, d2]; rfl) rfl ⟨by rw [HR], hBW⟩
          | true =>
            go_wp2_with fail
            have hA3 := Whole.setOther hA2 (g' := w.heap.size + 1) (by omega) 2 (.string (s.extract 10 (10 + n)))
            have hb3 := below_set hbb2 (g := w.heap.size + 1) (by omega) 2 (.string (s.extract 10 (10 + n)))
            have hW := hA3.set3 (.int .i64 kd) (.int .i64 ad) (.string (s.extract 10 (10 + n)))
            have hBW := below_set3 hb3 (Nat.le_refl _) (.int .i64 kd) (.int .i64 ad) (.string (s.extract 10 (10 + n)))
            obtain ⟨d0, d1, d2⟩ := hW.three
            have HR := rd_ok HL0.out (by rw [HK.out, HA.out]; exact HC.out) (by rw [HN.out]; omega) (by rw [HN.out, len_l]; omega) (by rw [HN.out]; exact HF.out)
            rw [HN.out, HK.out, HA.out] at HR
            have hx : rdW (readL s.data.toList) = .tuple #[.agg #[.int .i64 kd, .int .i64 ad, .string (s.extract 10 (10 + n))], .int .i64 (10 + n + 4), .int .i64 0] := by
              rw [HR, Lib.extract_eq, show 10 + n - 10 = n from by omega]
              unfold rdW
              simp only
              rw [show ((14 + n : Nat) : Int) = 10 + n + 4 from by omega]
            exact bodyPost_ret (v := .tuple #[.agg #[.int .i64 kd, .int .i64 ad, .string (s.extract 10 (10 + n))], .int .i64 (10 + n + 4), .int .i64 0]) (by simp [results, Try.results22, go_sem, d0, d1, d2]) rfl ⟨by rw [hx], hBW⟩
    · have hcb : (chk kd ad 0 != 0) = true := by simpa using hc
      have HC := Lib.hid hc
      clear hc
      go_wp2_with fail
      have hW := hA1.set3 (.int .i64 0) (.int .i64 0) (.string ⟨#[]⟩)
      have hBW := below_set3 hbb (Nat.le_refl _) (.int .i64 0) (.int .i64 0) (.string ⟨#[]⟩)
      obtain ⟨d0, d1, d2⟩ := hW.three
      have HR := (rd_chk HL0.out HL1.out (by rw [HK.out, HA.out]; exact HC.out)).trans (by rw [HK.out, HA.out])
      exact bodyPost_ret (v := rdW (none_ (chk kd ad 0))) (by simp [results, Try.results22, go_sem, d0, d1, d2]; rfl) rfl ⟨by rw [HR], hBW⟩

set_option maxHeartbeats 1000000 in
theorem read_s3 (s : ByteArray) (w : World) (h0 : 0 < s.size) (h : s.size < 10) (h1 : s[0] = 87) :
    Calls Try.prog 22 #[.string s] w fun e w' => ReadPost s w e w' := by
  unfold ReadPost
  obtain ⟨hne, hne2⟩ := nonempty_facts s h0
  have hl0 : s.data.toList.headD 0 = 87 := by rw [head_of s h0]; exact h1
  have hl : s.data.toList ≠ [] := by intro e; have := len_l s; rw [e] at this; simp at this; omega
  have HR := rd_short hl hl0 (by rw [len_l]; exact h)
  rw [rd_none HR]
  have hd : ((s[0].toNat : Int) != 87) = false := by rw [h1]; decide
  clear h1 HR hl hl0
  go_enter Try.func22, Try.ntmps22
  go_wp2
  exact bodyPost_ret (v := rdW (none_ 13)) (by simp [results, Try.results22, go_sem]; rfl) rfl ⟨rfl, (Below.refl _ _).alloc (Nat.le_refl _) _⟩

theorem read_it (s : ByteArray) (w : World) (hs : s.size ≤ 10000) : Calls Try.prog 22 #[.string s] w fun e w' => ReadPost s w e w' := by
  by_cases h0 : s.size = 0
  · exact read_s1 s w h0
  · have h0 : 0 < s.size := by omega
    by_cases h1 : s[0] = 87
    · by_cases h2 : s.size < 10
      · exact read_s3 s w h0 h2 h1
      · exact read_s7 s w hs (by omega) h1
    · exact read_s2 s w h0 h1

end Go.Proofs.Ytgoeabkoljabkaa
