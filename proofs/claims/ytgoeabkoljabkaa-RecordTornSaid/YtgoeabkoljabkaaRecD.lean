/- The walk of the reference's Read. -/
import Derived.Test.YtgoeabkoljabkaaRecC
namespace Go.Proofs.Ytgoeabkoljabkaa
open Go.RowKit
attribute [local go_sem ↓] Go.wp_at_zero Go.wp_at_succ

set_option maxHeartbeats 1000000 in
theorem rread_s1 (s : ByteArray) (w : World) (h : s.size = 0) :
    Calls Try.prog 23 #[.string s] w fun e w' => ReadPost s w e w' := by
  unfold ReadPost
  have he : s = ⟨#[]⟩ := by
    apply ByteArray.ext
    exact Array.eq_empty_of_size_eq_zero h
  subst he
  rw [rd_none (rd_empty rfl)]
  go_enter Try.func23, Try.ntmps23
  go_wp2
  exact bodyPost_ret (v := rdW (none_ 13)) (by simp [results, Try.results23, go_sem]; rfl) rfl ⟨rfl, (Below.refl _ _).alloc (Nat.le_refl _) _⟩

set_option maxHeartbeats 1000000 in
theorem rread_s2 (s : ByteArray) (w : World) (h : 0 < s.size) (h1 : s[0] ≠ 87) :
    Calls Try.prog 23 #[.string s] w fun e w' => ReadPost s w e w' := by
  unfold ReadPost
  obtain ⟨hne, hne2⟩ := nonempty_facts s h
  rw [rd_none (rd_form (by intro e; have := len_l s; rw [e] at this; simp at this; omega) (by rw [head_of s h]; exact h1))]
  have hd : ((s[0].toNat : Int) != 87) = true := by
    rw [bne_iff_ne]; intro e; exact h1 (UInt8.toNat_inj.1 (by show s[0].toNat = 87; omega))
  go_enter Try.func23, Try.ntmps23
  go_wp2
  exact bodyPost_ret (v := rdW (none_ 3)) (by simp [results, Try.results23, go_sem]; rfl) rfl ⟨rfl, (Below.refl _ _).alloc (Nat.le_refl _) _⟩

set_option maxHeartbeats 1000000 in
theorem rread_s3 (s : ByteArray) (w : World) (h0 : 0 < s.size) (h : s.size < 10) (h1 : s[0] = 87) :
    Calls Try.prog 23 #[.string s] w fun e w' => ReadPost s w e w' := by
  unfold ReadPost
  obtain ⟨hne, hne2⟩ := nonempty_facts s h0
  have hl0 : s.data.toList.headD 0 = 87 := by rw [head_of s h0]; exact h1
  have hl : s.data.toList ≠ [] := by intro e; have := len_l s; rw [e] at this; simp at this; omega
  have HR := rd_short hl hl0 (by rw [len_l]; exact h)
  rw [rd_none HR]
  have hd : ((s[0].toNat : Int) != 87) = false := by rw [h1]; decide
  clear h1 HR hl hl0
  go_enter Try.func23, Try.ntmps23
  go_wp2
  exact bodyPost_ret (v := rdW (none_ 13)) (by simp [results, Try.results23, go_sem]; rfl) rfl ⟨rfl, (Below.refl _ _).alloc (Nat.le_refl _) _⟩

/-- The bytes at the front against those that the item would have. -/
theorem rd_cmp (s : ByteArray) (kd ad : Int) (n : Nat) (hn : lnL s.data.toList = n) (hk : kdL s.data.toList = kd) (ha : atL s.data.toList = ad) (h87 : s.data.toList.headD 0 = 87) (hc : chk kd ad n = 0) (h : 14 + n ≤ s.size) :
    ((s.extract 0 (14 + n)).toList == (putB kd ad (s.extract 10 (10 + n))).toList) = fitsB (s.data.toList.take (14 + n)) := by
  have hf := full_back s.data.toList n hn.symm (by rw [len_l]; exact h) h87
  have e1 : (s.extract 0 (14 + n)).toList = s.data.toList.take (14 + n) := by rw [Lib.extract_toList]; simp
  have e2 : (s.extract 10 (10 + n)).data.toList = (s.data.toList.drop 10).take n := by rw [Lib.extract_data]; simp
  have el : ((s.data.toList.drop 10).take n).length = n := by rw [List.length_take, List.length_drop, len_l]; omega
  have e3 : (putB kd ad (s.extract 10 (10 + n))).toList = fullL (kd, ad, (s.data.toList.drop 10).take n) := by
    unfold putB putI
    rw [e2, Lib.toList_data]
    simp only
    rw [el, if_pos hc]
  rw [e1, e3, ← hk, ← ha, Bool.eq_iff_iff, beq_iff_eq]
  exact hf.symm

set_option maxHeartbeats 1000000 in
theorem rread_s7 (s : ByteArray) (w : World) (hs : s.size ≤ 10000) (h : 10 ≤ s.size) (h1 : s[0] = 87) :
    Calls Try.prog 23 #[.string s] w fun e w' => ReadPost s w e w' := by
  unfold ReadPost
  obtain ⟨hne, hne2⟩ := nonempty_facts s (by omega)
  have hd : ((s[0].toNat : Int) != 87) = false := by rw [h1]; decide
  have i1 : 1 < s.size := by omega
  have ek := kd_of s i1
  have k0 := (u8_le s[1]).1
  have k1 := (u8_le s[1]).2
  have ew : IntKind.i64.wrap (kdL s.data.toList) = kdL s.data.toList := IntWalk.i64_in _ (by omega)
  have j1 : (1 : Int) < (s.size : Int) := by omega
  have j10 : (10 : Int) ≤ (s.size : Int) := by omega
  have sl1 : ∀ w, (Instr.slice 9 (.string s) (some (.int .i64 2)) (some (.int .i64 8)) none).run Try.prog w = .ok (.string (s.extract 2 8)) w := fun w => run_slice_string w 9 s .i64 .i64 2 8 Try.underlying9 (by omega) (by omega) (by omega)
  have sl2 : ∀ w, (Instr.slice 9 (.string s) (some (.int .i64 8)) (some (.int .i64 10)) none).run Try.prog w = .ok (.string (s.extract 8 10)) w := fun w => run_slice_string w 9 s .i64 .i64 8 10 Try.underlying9 (by omega) (by omega) (by omega)
  have ekk : IntKind.i64.wrap (s[1].toNat : Int) = kdL s.data.toList := by rw [ek]; exact ew
  have hl0 : s.data.toList.headD 0 = 87 := by rw [head_of s (by omega)]; exact h1
  have hl1 : 10 ≤ s.data.toList.length := by rw [len_l]; exact h
  go_enter Try.func23, Try.ntmps23
  go_upto_region 7 with fail
  go_cut [5] from 21 to 27 (fun p wx => p = .pointer (some ⟨w.heap.size + 1, 0, none⟩) ∧ Whole wx w.heap.size 36 #[.int .i64 0, .int .i64 0, .string ⟨#[]⟩] ∧ Whole wx (w.heap.size + 1) 36 #[.int .i64 (kdL s.data.toList), .int .i64 (atL s.data.toList), .string ⟨#[]⟩] ∧ Below w.heap.size w wx ∧ w.heap.size + 2 ≤ wx.heap.size)
  case first =>
    go_region_held3 (fun _ => True) (trivial) (first | (go_at_call 38; refine (rnum_at s _).mono ?_; rintro e w' ⟨rfl, rfl⟩))
    all_goals
      go_wp2_with fail
      go_meet
      exact ⟨rfl, ((Whole.new w 36 _).alloc _).drew_, (Whole.at_ (by simp)).drew_, (((Below.refl _ w).alloc (Nat.le_refl _) _).alloc (by simp) _).drew, by simp [World.drew]⟩
  case rest =>
    clear sl1 ek ew ekk hd hne hne2 k0 k1 i1 j1
    obtain ⟨rfl, hA, hB, hb, hz⟩ := hcut
    have j10 : (10 : Int) ≤ (s.size : Int) := by omega
    generalize hkd : kdL s.data.toList = kd at *
    generalize had : atL s.data.toList = ad at *
    obtain ⟨b0, b1, b2⟩ := hB.three
    go_wp2_with fail
    refine (rcheck_any kd ad ⟨#[]⟩ _).mono ?_; rintro e w1 ⟨rfl, hb1⟩
    rw [show (⟨#[]⟩ : ByteArray).size = 0 from rfl]
    have hA1 := hA.below hb1 (by omega)
    have hB1 := hB.below hb1 (by omega)
    have hbb := hb.trans (hb1.mono (by omega))
    have hz1 := Nat.le_trans hz hb1.size
    clear hA hB hb hz hb1 b0 b1 b2
    obtain ⟨a0, a1, a2⟩ := hA1.three
    obtain ⟨b0, b1, b2⟩ := hB1.three
    have f0 := hA1.frozen 0
    have f1 := hA1.frozen 1
    have f2 := hA1.frozen 2
    have e2 := hB1.frozen 2
    have HK := Lib.hid hkd
    have HA := Lib.hid had
    have HL0 := Lib.hid hl0
    have HL1 := Lib.hid hl1
    clear hkd had hl0 hl1
    by_cases hc : chk kd ad 0 = 0
    · have hcb : (chk kd ad 0 != 0) = false := by simp [hc]
      have hln := ln_lt s.data.toList
      have HC := Lib.hid hc
      clear hc
      go_wp2_with fail
      refine (rnum_ln s _).mono ?_; rintro e w' ⟨rfl, rfl⟩
      generalize hn : lnL s.data.toList = n at *
      have HN := Lib.hid hn
      clear hn sl2
      by_cases h4 : 4096 < n
      · have h4' : (4096 : Int) < (n : Int) := by omega
        go_wp2_with fail
        have hW := hA1.set3 (.int .i64 0) (.int .i64 0) (.string ⟨#[]⟩)
        have hBW := below_set3 hbb (Nat.le_refl _) (.int .i64 0) (.int .i64 0) (.string ⟨#[]⟩)
        obtain ⟨d0, d1, d2⟩ := hW.three
        have HR := rd_big HL0.out HL1.out (by rw [HK.out, HA.out]; exact HC.out) (by rw [HN.out]; exact h4)
        exact bodyPost_ret (v := rdW (none_ 5)) (by simp [results, Try.results23, go_sem, d0, d1, d2]; rfl) rfl ⟨by rw [HR], hBW⟩
      · have h4' : ¬ (4096 : Int) < (n : Int) := by omega
        by_cases h5 : s.size < 14 + n
        · have h5' : (s.size : Int) < 14 + (n : Int) := by omega
          go_wp2_with fail
          have hW := hA1.set3 (.int .i64 0) (.int .i64 0) (.string ⟨#[]⟩)
          have hBW := below_set3 hbb (Nat.le_refl _) (.int .i64 0) (.int .i64 0) (.string ⟨#[]⟩)
          obtain ⟨d0, d1, d2⟩ := hW.three
          have HR := rd_cut HL0.out HL1.out (by rw [HK.out, HA.out]; exact HC.out) (by rw [HN.out]; omega) (by rw [HN.out, len_l]; exact h5)
          exact bodyPost_ret (v := rdW (none_ 13)) (by simp [results, Try.results23, go_sem, d0, d1, d2]; rfl) rfl ⟨by rw [HR], hBW⟩
        · have h5' : ¬ (s.size : Int) < 14 + (n : Int) := by omega
          have hcn : chk kd ad n = 0 := by have := chk_zero HC.out; exact chk_of this.1 this.2.1 this.2.2.1 this.2.2.2.1 (by omega)
          have hcmp := rd_cmp s kd ad n HN.out HK.out HA.out HL0.out hcn (by omega)
          have HCN := Lib.hid hcn
          clear hcn
          have hB1' := hB1.setCell 2 (.string (s.extract 10 (10 + n)))
          have c3 : Whole (w1.setCell ⟨w.heap.size + 1, 2, none⟩ (.string (s.extract 10 (10 + n)))) (w.heap.size + 1) 36 #[.int .i64 kd, .int .i64 ad, .string (s.extract 10 (10 + n))] := hB1'
          have hA3 := Whole.setOther hA1 (g' := w.heap.size + 1) (by omega) 2 (.string (s.extract 10 (10 + n)))
          have hb3 := below_set hbb (g := w.heap.size + 1) (by omega) 2 (.string (s.extract 10 (10 + n)))
          have hz3 : w.heap.size + 2 ≤ (w1.setCell ⟨w.heap.size + 1, 2, none⟩ (.string (s.extract 10 (10 + n)))).heap.size := by simpa [World.setCell] using hz1
          obtain ⟨g0, g1, g2⟩ := c3.three
          go_wp2_with fail
          refine (rput_it kd ad (s.extract 10 (10 + n)) _).mono ?_; rintro e w2 ⟨rfl, hb2⟩
          have hA2 := hA3.below hb2 (by omega)
          have hB2 := c3.below hb2 (by omega)
          have hbb2 := hb3.trans (hb2.mono (by omega))
          clear hA1 hB1 hbb a0 a1 a2 b0 b1 b2 f0 f1 f2 e2 hB1' c3 hA3 hb3 hz3 g0 g1 g2 hb2
          obtain ⟨a0, a1, a2⟩ := hA2.three
          obtain ⟨b0, b1, b2⟩ := hB2.three
          have f0 := hA2.frozen 0
          have f1 := hA2.frozen 1
          have f2 := hA2.frozen 2
          generalize hF : fitsB (s.data.toList.take (14 + n)) = F at *
          have HF := Lib.hid hF
          clear hF
          cases F with
          | false =>
            go_wp2_with fail
            have hW := hA2.set3 (.int .i64 0) (.int .i64 0) (.string ⟨#[]⟩)
            have hBW := below_set3 hbb2 (Nat.le_refl _) (.int .i64 0) (.int .i64 0) (.string ⟨#[]⟩)
            obtain ⟨d0, d1, d2⟩ := hW.three
            have HR := rd_sum HL0.out (by rw [HK.out, HA.out]; exact HC.out) (by rw [HN.out]; omega) (by rw [HN.out, len_l]; omega) (by rw [HN.out]; exact HF.out)
            exact bodyPost_ret (v := rdW (none_ 4)) (by simp [results, Try.results23, go_sem, d0, d1, d2]; rfl) rfl ⟨by rw [HR], hBW⟩
          | true =>
            go_wp2_with fail
            have hW := hA2.set3 (.int .i64 kd) (.int .i64 ad) (.string (s.extract 10 (10 + n)))
            have hBW := below_set3 hbb2 (Nat.le_refl _) (.int .i64 kd) (.int .i64 ad) (.string (s.extract 10 (10 + n)))
            obtain ⟨d0, d1, d2⟩ := hW.three
            have HR := rd_ok HL0.out (by rw [HK.out, HA.out]; exact HC.out) (by rw [HN.out]; omega) (by rw [HN.out, len_l]; omega) (by rw [HN.out]; exact HF.out)
            rw [HN.out, HK.out, HA.out] at HR
            have hx : rdW (readL s.data.toList) = .tuple #[.agg #[.int .i64 kd, .int .i64 ad, .string (s.extract 10 (10 + n))], .int .i64 (14 + n), .int .i64 0] := by
              rw [HR, Lib.extract_eq, show 10 + n - 10 = n from by omega]
              unfold rdW
              simp only
              rw [show ((14 + n : Nat) : Int) = 14 + n from by omega]
            exact bodyPost_ret (v := .tuple #[.agg #[.int .i64 kd, .int .i64 ad, .string (s.extract 10 (10 + n))], .int .i64 (14 + n), .int .i64 0]) (by simp [results, Try.results23, go_sem, d0, d1, d2]) rfl ⟨by rw [hx], hBW⟩
    · have hcb : (chk kd ad 0 != 0) = true := by simpa using hc
      have HC := Lib.hid hc
      clear hc
      go_wp2_with fail
      have hW := hA1.set3 (.int .i64 0) (.int .i64 0) (.string ⟨#[]⟩)
      have hBW := below_set3 hbb (Nat.le_refl _) (.int .i64 0) (.int .i64 0) (.string ⟨#[]⟩)
      obtain ⟨d0, d1, d2⟩ := hW.three
      have HR := (rd_chk HL0.out HL1.out (by rw [HK.out, HA.out]; exact HC.out)).trans (by rw [HK.out, HA.out])
      exact bodyPost_ret (v := rdW (none_ (chk kd ad 0))) (by simp [results, Try.results23, go_sem, d0, d1, d2]; rfl) rfl ⟨by rw [HR], hBW⟩

theorem rread_it (s : ByteArray) (w : World) (hs : s.size ≤ 10000) : Calls Try.prog 23 #[.string s] w fun e w' => ReadPost s w e w' := by
  by_cases h0 : s.size = 0
  · exact rread_s1 s w h0
  · have h0 : 0 < s.size := by omega
    by_cases h1 : s[0] = 87
    · by_cases h2 : s.size < 10
      · exact rread_s3 s w h0 h2 h1
      · exact rread_s7 s w hs (by omega) h1
    · exact rread_s2 s w h0 h1

end Go.Proofs.Ytgoeabkoljabkaa
