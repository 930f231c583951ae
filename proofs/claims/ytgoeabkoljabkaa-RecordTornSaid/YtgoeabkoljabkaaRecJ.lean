/- The walks of All and of the law RecordTorn. -/
import Derived.Test.YtgoeabkoljabkaaRecI
namespace Go.Proofs.Ytgoeabkoljabkaa
open Go.RowKit
attribute [local go_sem ↓] Go.wp_at_zero Go.wp_at_succ

theorem own_string {w : World} {base n : Nat} {v : Value} {l : List UInt8} (h : w.ownsRow base 5 1 v n (bytesV l)) : (convert 29 9 v).run Try.prog w = .ok (.string ⟨l.toArray⟩) w := by
  have hl : l.length = n := by have := h.1; rw [bytesV_length] at this; omega
  rcases h.2 with ⟨rfl, h0⟩ | ⟨g, cap, cur, rfl, hg, hh, hn, hm, hs, ht⟩
  · have : l = [] := List.eq_nil_of_length_eq_zero (by omega)
    subst this
    first | rfl | (simp [go_sem, convert, Try.underlying29, Try.underlying9, Try.underlying5]; done)
  · refine str_of w g n cap l hl (fun j hj => ?_)
    rw [World.ownsRow.cellAt (w := w) (g := g) (cap := cap) h j (by omega)]
    unfold bytesV
    rw [List.getElem?_map, List.getElem?_eq_getElem hj]; rfl

set_option maxHeartbeats 1000000 in
theorem all_it (b n : Nat) (v : Value) (F : List It) (w : World) (hn : F.length = n) (h12 : n ≤ 12) (hF : ∀ x ∈ F, okI x) (h : w.ownsRow b 36 3 v n (itVs F)) :
    Calls Try.prog 32 #[v] w fun e w' => e = .returned (.tuple #[.string ⟨(allL F).toArray⟩, .int .i64 0]) ∧ Below w.heap.size w w' := by
  subst hn
  obtain ⟨A, ca, rfl, hm, _, _, ha⟩ := own_form h
  obtain ⟨i0, hi, hz0, hz1, hz2⟩ := info_parts Try.info5
  have HA := Lib.hid ha
  have HF := Lib.hid hF
  clear ha h hF
  go_enter Try.func32, Try.ntmps32
  go_wp2
  go_loopw [4, 11] (fun out i wr => ∃ k : Nat, i = .int .i64 (k : Int) ∧ k ≤ F.length ∧ wr.ownsRow w.heap.size 5 1 out (allL (F.take k)).length (bytesV (allL (F.take k))) ∧ Below w.heap.size w wr) (fun _ i _ => F.length - (intOf i).toNat)
  case atStart => exact ⟨0, rfl, by omega, World.ownsRow_nil _ _ _ _, Below.refl _ _⟩
  case round =>
    obtain ⟨k, rfl, hk, hown, hb⟩ := hrel
    by_cases hlt : k < F.length
    · obtain ⟨g1, rfl, _, hg1, c1⟩ := HA.out k hlt (by omega)
      obtain ⟨l1, l2, l3⟩ := itVs_at F k hlt
      have d1 := ((hb.cell (p := ⟨g1, k * 3, none⟩) hg1).trans (c1 (k * 3) (by omega))).trans l1
      have d2 := ((hb.cell (p := ⟨g1, k * 3 + 1, none⟩) hg1).trans (c1 (k * 3 + 1) (by omega))).trans l2
      have d3 := ((hb.cell (p := ⟨g1, k * 3 + 2, none⟩) hg1).trans (c1 (k * 3 + 2) (by omega))).trans l3
      have g0 : (0 : Int) ≤ (k : Int) := by omega
      have g3 : (k : Int) < (F.length : Int) := by omega
      have hx := HF.out F[k] (List.getElem_mem hlt)
      have HS : Hid (allL (F.take (k + 1)) = allL (F.take k) ++ fullL F[k]) := by
        unfold Hid; rw [List.take_succ_eq_append_getElem hlt, allL_append]
        congr 1; simp [allL]
      have hla := allL_len (F.take k) (fun y hy => HF.out y (List.mem_of_mem_take hy))
      rw [List.length_take] at hla
      have hlx := fullL_len F[k]
      clear c1 l1 l2 l3 HA
      generalize F[k] = x at *
      obtain ⟨hxc, hxl⟩ := hx
      have hls : (⟨(fullL x).toArray⟩ : ByteArray).size ≤ 214 := by rw [size_l]; omega
      have HXC := Lib.hid hxc
      clear hxc hlx
      go_wp2_with fail
      refine (put_x x _ HXC.out).mono ?_; rintro e w1 ⟨rfl, hb1⟩
      have hbb := below_then (hb.alloc hb.size (.cells #[.int .i64 x.1, .int .i64 x.2.1, .string ⟨x.2.2.toArray⟩] 36)) hb1
      have hown1 := own_below (hown.alloc (.cells #[.int .i64 x.1, .int .i64 x.2.1, .string ⟨x.2.2.toArray⟩] 36)) hb1
      have hsz := hbb.size
      clear hb hown hb1 d1 d2 d3
      generalize allL (F.take k) = D at *
      go_wp2_with (at_builtin; refine Lib.wpList_append_own_string _ rfl _ _ 29 9 rfl w.heap.size 5 i0 Try.underlying29 Try.underlying9 hi hz0 hz1 hz2 _ _ _ rfl hown1 ⟨(fullL x).toArray⟩ rfl ?c3 ?c4 hsz ?_)
      case c3 => unfold maxLen; omega
      case c4 => omega
      intro v2 w2 hown2 hgrow2 _
      have hb2 : Below w.heap.size w w2 := hbb.grown hgrow2 hsz (own_grown_ge hown1)
      have hown3 : w2.ownsRow w.heap.size 5 1 v2 (D ++ fullL x).length (bytesV (D ++ fullL x)) := by
        rw [bytesV_append, List.length_append]
        have e := hown2
        exact e
      clear hown1 hown2 hgrow2 hbb hls hla
      go_wp2
      exact ⟨⟨k + 1, by go_num, by omega, by rw [HS.out]; exact hown3, hb2⟩, by simp [intOf]; omega⟩
    · have ek : k = F.length := by omega
      subst ek
      rw [List.take_length] at hown
      have hstr := own_string hown
      go_wp2_with fail
      go_ret2
      exact ⟨rfl, hb⟩

/-- A row's front. -/
theorem own_take {w : World} {base : Nat} {e : TypeId} {size n cap : Nat} {A : Option Addr} {xs : List Value} (h : w.ownsRow base e size (.slice A n cap) n xs) {i : Nat} (hi : i ≤ n) : w.ownsRow base e size (.slice A i cap) i (xs.take (i * size)) := by
  obtain ⟨h1, h2⟩ := h
  refine ⟨by rw [List.length_take, h1]; exact Nat.min_eq_left (Nat.mul_le_mul_right _ hi), ?_⟩
  rcases h2 with ⟨hv, h0⟩ | ⟨g, c, cur, hv, hb, hh, hn, hm, hs, ht⟩
  · cases hv
    exact .inl ⟨by have : i = 0 := by omega
                   subst this; rfl, by omega⟩
  · cases hv
    refine .inr ⟨g, cap, cur, rfl, hb, hh, by omega, hm, hs, ?_⟩
    rw [← ht, List.take_take, Nat.min_eq_left (Nat.mul_le_mul_right _ hi)]
theorem scan_cut (S : ByteArray) (F : List It) (hF : ∀ x ∈ F, okI x) (hS : S.data.toList = allL F) (m : Nat) (hm : m ≤ S.size) : scanS (S.extract 0 m) = (F.take (wholeN F m).1, (wholeN F m).2) := by
  have e : (S.extract 0 m).data.toList = (allL F).take m := by rw [Lib.extract_data, hS]; simp
  have hl : (allL F).length = S.size := by rw [← hS]; simp
  unfold scanS
  rw [e]
  exact torn F hF m _ (by rw [List.length_take]; omega) (by omega)
/-- Up to the j-th item, of those that are whole. -/
def AtN (F : List It) (m j W : Nat) : Prop := W ≤ m ∧ wholeN F m = ((wholeN (F.drop j) (m - W)).1 + j, (wholeN (F.drop j) (m - W)).2 + W)
theorem atN_0 (F : List It) (m : Nat) : AtN F m 0 0 := ⟨by omega, by simp⟩
theorem atN_step {F : List It} {m j W : Nat} (h : AtN F m j W) (hj : j < F.length) (hw : 14 + F[j].2.2.length ≤ m - W) : AtN F m (j + 1) (W + (14 + F[j].2.2.length)) := by
  obtain ⟨h1, h2⟩ := h
  refine ⟨by omega, ?_⟩
  rw [h2, List.drop_eq_getElem_cons hj]
  simp only [wholeN]
  rw [if_pos hw]
  simp only [Prod.mk.injEq]
  rw [show m - W - (14 + F[j].2.2.length) = m - (W + (14 + F[j].2.2.length)) from by omega]
  exact ⟨by omega, by omega⟩
theorem atN_end {F : List It} {m j W : Nat} (h : AtN F m j W) (he : ∀ hj : j < F.length, ¬ 14 + F[j].2.2.length ≤ m - W) : wholeN F m = (j, W) := by
  obtain ⟨h1, h2⟩ := h
  rw [h2]
  by_cases hj : j < F.length
  · rw [List.drop_eq_getElem_cons hj]
    simp only [wholeN]
    rw [if_neg (he hj)]
    simp
  · rw [List.drop_of_length_le (by omega)]
    simp [wholeN]

set_option maxRecDepth 100000 in
set_option maxHeartbeats 2000000 in
theorem torn_all (A0 : Option Addr) (n0 cap0 : Nat) (f : Nat → It) (c : Int) (w : World) (hn : n0 ≤ maxLen) (hin : ItsIn w A0 n0 f) (c0 : 0 ≤ c) (c1 : c ≤ 65535) :
    Calls Try.prog 9 #[.slice A0 n0 cap0, .int .u16 c] w fun e w' => e = .returned (.bool true) ∧ Below w.heap.size w w' := by
  go_enter Try.func9, Try.ntmps9
  go_wp2_with fail
  refine (few_it A0 n0 cap0 f _ hn hin).mono ?_; rintro e w1 ⟨F, v, rfl, hF, h12, hown, hb1⟩
  clear hin hn
  obtain ⟨A, ca, rfl, hm1, hca, hcm, ha⟩ := own_form hown
  clear ha
  have HF := Lib.hid hF
  clear hF
  go_wp2_with fail
  refine (all_it w.heap.size F.length _ F _ rfl h12 HF.out hown).mono ?_; rintro e w2 ⟨rfl, hb2⟩
  have hown2 := own_below hown hb2
  have hbb2 := below_then hb1 hb2
  clear hown hb1 hb2
  have hSl : (⟨(allL F).toArray⟩ : ByteArray).size = (allL F).length := size_l _
  have hSd : (⟨(allL F).toArray⟩ : ByteArray).data.toList = allL F := rfl
  have hle := allL_len F HF.out
  generalize (⟨(allL F).toArray⟩ : ByteArray) = S at *
  have hS2 : S.size ≤ 2568 := by omega
  have m0 : 0 ≤ c % ((S.size : Int) + 1) := Int.emod_nonneg _ (by omega)
  have m1 : c % ((S.size : Int) + 1) < (S.size : Int) + 1 := Int.emod_lt_of_pos _ (by omega)
  obtain ⟨m, hm⟩ := Int.eq_ofNat_of_zero_le m0
  have hmS : m ≤ S.size := by omega
  have hmS' : (m : Int) ≤ (S.size : Int) := by omega
  obtain ⟨K, W0, hKW⟩ : ∃ K W0, wholeN F m = (K, W0) := ⟨_, _, rfl⟩
  have hsc : scanS (S.extract 0 m) = (F.take K, W0) := by rw [scan_cut S F HF.out hSd m hmS, hKW]
  have HSC := Lib.hid hsc
  have HKW := Lib.hid hKW
  have HLE := Lib.hid hle
  have HSL := Lib.hid hSl
  have HSD := Lib.hid hSd
  clear hsc hKW hle hSl hSd m0 m1
  go_wp2_with fail
  refine (scan_is (S.extract 0 m) (F.take K, W0) _ (by rw [ByteArray.size_extract]; omega) HSC.out).mono ?_; rintro e w3 ⟨v3, rfl, hback, hb3⟩
  have hown3 := own_below hown2 hb3
  have hbb3 := below_then hbb2 hb3
  clear hown2 hbb2 hb3
  go_wp2
  go_loopw [10, 11] (fun x i wr => ∃ (W j : Nat), i = .int .i64 (j : Int) ∧ x = .int .i64 (W : Int) ∧ j ≤ F.length ∧ W ≤ m ∧ Hid (AtN F m j W) ∧ Below w3.heap.size w3 wr) (fun _ i _ => F.length - (intOf i).toNat)
  case atStart => exact ⟨0, 0, rfl, rfl, by omega, by omega, atN_0 F m, Below.refl _ _⟩
  case round =>
    obtain ⟨W, j, rfl, rfl, hj, hW, HN, hb⟩ := hrel
    have hown4 := own_below hown3 hb
    have hback4 := own_below hback hb
    have hbb4 := below_then hbb3 hb
    by_cases hlt : j < F.length
    · obtain ⟨A', ca', hA', _, _, _, ha⟩ := own_form hown4
      obtain ⟨rfl, rfl⟩ : A = A' ∧ ca = ca' := by injection hA' with h1 _ h2; exact ⟨h1, h2⟩
      obtain ⟨g1, rfl, _, hg1, cc⟩ := ha j hlt (by omega)
      obtain ⟨l1, l2, l3⟩ := itVs_at F j hlt
      have d1 := (cc (j * 3) (by omega)).trans l1
      have d2 := (cc (j * 3 + 1) (by omega)).trans l2
      have d3 := (cc (j * 3 + 2) (by omega)).trans l3
      have g0 : (0 : Int) ≤ (j : Int) := by omega
      have g3 : (j : Int) < (F.length : Int) := by omega
      have hxl := (HF.out F[j] (List.getElem_mem hlt)).2
      have HST : Hid (14 + F[j].2.2.length ≤ m - W → AtN F m (j + 1) (W + (14 + F[j].2.2.length))) := fun h => atN_step HN.out hlt h
      have HEN : Hid (¬ 14 + F[j].2.2.length ≤ m - W → wholeN F m = (j, W)) := fun h => atN_end HN.out (fun _ => h)
      clear cc l1 l2 l3 ha hA'
      generalize F[j] = x at *
      go_wp2_with fail
      refine (len_x x _ (by omega)).mono ?_; rintro e w5 ⟨rfl, hb5⟩
      have e1 := (hb5.cell (p := ⟨g1, j * 3, none⟩) hg1).trans d1
      have e2 := (hb5.cell (p := ⟨g1, j * 3 + 1, none⟩) hg1).trans d2
      have e3 := (hb5.cell (p := ⟨g1, j * 3 + 2, none⟩) hg1).trans d3
      have hbb5 := below_then hbb4 hb5
      have hb6 := below_then hb hb5
      have hown5 := own_below hown4 hb5
      have hback5 := own_below hback4 hb5
      clear d1 d2 d3 hbb4 hb hb5 hown4 hback4
      by_cases hle : 14 + x.2.2.length ≤ m - W
      · have hle' : (14 : Int) + (x.2.2.length : Int) ≤ (m : Int) - (W : Int) := by omega
        have hn2 := HST.out hle
        have HN2 := Lib.hid hn2
        clear hn2 HEN HST
        go_wp2_with fail
        refine (len_x x _ (by omega)).mono ?_; rintro e w7 ⟨rfl, hb7⟩
        have hb8 := below_then hb6 hb7
        clear e1 e2 e3 hbb5 hb6 hb7 hown5 hback5
        go_wp2_with fail
        exact ⟨⟨W + (14 + x.2.2.length), j + 1, by go_num, by go_num, by omega, by omega, HN2, hb8⟩, by simp [intOf]; omega⟩
      · have hle' : ¬ (14 : Int) + (x.2.2.length : Int) ≤ (m : Int) - (W : Int) := by omega
        have hend := HEN.out hle
        rw [HKW.out] at hend
        obtain ⟨rfl, rfl⟩ : K = j ∧ W0 = W := by injection hend with h1 h2; exact ⟨h1, h2⟩
        clear hend HEN HST HSC HKW e1 e2 e3
        have hcK : (K : Int) ≤ (ca : Int) := by omega
        have hKl : (F.take K).length = K := by rw [List.length_take]; omega
        have hfront := own_take hown5 hj
        rw [itVs_take] at hfront
        rw [hKl] at hback5
        go_wp2_with fail
        refine (same_it _ _ K v3 _ (F.take K) _ hKl hback5 hfront).mono ?_; rintro e w7 ⟨rfl, hb7⟩
        have hbb7 := below_then hbb5 hb7
        clear hbb5 hb6 hb7 hown5 hback5 hfront
        go_wp2_with fail
        refine (works8 _).mono ?_; rintro e w8 ⟨rfl, hb8⟩
        go_wp2_with fail
        go_ret
        exact ⟨rfl, below_then hbb7 hb8⟩
    · have hend := atN_end HN.out (fun h => absurd h hlt)
      rw [HKW.out] at hend
      obtain ⟨rfl, rfl⟩ : K = j ∧ W0 = W := by injection hend with h1 h2; exact ⟨h1, h2⟩
      clear hend HSC HKW
      have g3 : ¬ (K : Int) < (F.length : Int) := by omega
      have hcK : (K : Int) ≤ (ca : Int) := by omega
      have hKl : (F.take K).length = K := by rw [List.length_take]; omega
      have hfront := own_take hown4 hj
      rw [itVs_take] at hfront
      rw [hKl] at hback4
      go_wp2_with fail
      refine (same_it _ _ K v3 _ (F.take K) _ hKl hback4 hfront).mono ?_; rintro e w7 ⟨rfl, hb7⟩
      have hbb7 := below_then hbb4 hb7
      clear hbb4 hb hb7 hown4 hback4 hfront
      go_wp2_with fail
      refine (works8 _).mono ?_; rintro e w8 ⟨rfl, hb8⟩
      go_wp2_with fail
      go_ret
      exact ⟨rfl, below_then hbb7 hb8⟩

end Go.Proofs.Ytgoeabkoljabkaa
