/- The walk of the law EscapeKeeps. -/
import Derived.Test.YtdgbhbifeohfjaaEscG
namespace Go.Proofs.Ytdgbhbifeohfjaa
open Go.RowKit

theorem fed_length (n : Nat) (s : List UInt8) : (fed n s).length ≤ 2 * s.length + 1 := by
  obtain ⟨h1, _⟩ := fold_len (evs n s) ([], [])
  have := flush_len ((evs n s).foldl accE ([], [])).1 ((evs n s).foldl accE ([], [])).2
  rw [evs_length] at h1
  simp only [List.length_nil, Nat.zero_add] at h1
  unfold fed; omega
theorem fed_sum (s : List UInt8) : (dataOf (fed 0 s)).length + 3 * keysOf (fed 0 s) + last 0 s = s.length := by
  have := toks_count s 0 (by omega)
  rw [fed_data, fed_keys]; omega
theorem fed_plain {s : List UInt8} (h : s.any (fun c => c == 5) = false) : dataOf (fed 0 s) = s ∧ keysOf (fed 0 s) = 0 := by
  have h5 : ∀ c ∈ s, c ≠ 5 := fun c hc e => by
    rw [List.any_eq_false] at h
    exact h c hc (by simp [e])
  rw [fed_data, fed_keys, toks_plain s h5, (map_bytes s).1, (map_bytes s).2]
  exact ⟨rfl, rfl⟩
theorem keysOf_append (a b : List Pc) : keysOf (a ++ b) = keysOf a + keysOf b := by simp [keysOf]
theorem tail_held (s : ByteArray) (q : Nat) (hq : s.size = q + last 0 s.data.toList) : s.extract q s.size = ⟨(pre (last 0 s.data.toList)).toArray⟩ := by
  obtain ⟨p, hp⟩ := tail_pre s.data.toList 0 (by omega)
  have hM := last_le 0 s.data.toList (by omega)
  have hl : (pre (last 0 s.data.toList)).length = last 0 s.data.toList := by simp [pre]; omega
  have hp' : s.data.toList = p ++ pre (last 0 s.data.toList) := hp
  generalize last 0 s.data.toList = M at *
  have hpl : p.length = q := by
    have := congrArg List.length hp'
    rw [List.length_append, hl] at this
    have h2 : s.data.toList.length = s.size := by simp
    omega
  refine ByteArray.ext (Array.toList_inj.1 ?_)
  show (s.extract q s.size).data.toList = pre M
  rw [Lib.extract_data, hp', ← hpl, List.drop_left, List.take_of_length_le (by rw [hl]; omega)]

set_option maxHeartbeats 400000 in
theorem keeps_big (s : ByteArray) (w : World) (h : 600 < s.size) : Calls Try.prog 9 #[.string s] w fun e w' => e = .returned (.bool true) ∧ Below w.heap.size w w' := by
  go_enter Try.func9, Try.ntmps9
  go_wp2_with (go_at_call 26; refine (works26 _).mono ?_; rintro e w1 ⟨rfl, hb⟩)
  go_ret
  exact ⟨rfl, hb⟩

set_option maxRecDepth 100000 in
set_option maxHeartbeats 4000000 in
theorem keeps_small (s : ByteArray) (w : World) (h : s.size ≤ 600) : Calls Try.prog 9 #[.string s] w fun e w' => e = .returned (.bool true) ∧ Below w.heap.size w w' := by
  go_enter Try.func9, Try.ntmps9
  go_wp2_with fail
  have hg0 := Boxed.new w 49 (.int .i64 0)
  have hb0 := (Below.refl w.heap.size w).alloc (Nat.le_refl _) (.cells #[.int .i64 0] 49)
  have hs0 : w.heap.size < (w.alloc (.cells #[.int .i64 0] 49)).heap.size := by simp
  generalize w.alloc (.cells #[.int .i64 0] 49) = w0 at *
  refine (feed_any w.heap.size 0 s w0 (by omega) hg0 (by omega)).mono ?_
  rintro e w1 ⟨a, rfl, ra, hg1, hk1⟩
  have hb1 := ge_below hb0 hk1 (Nat.le_refl _)
  clear hg0 hb0 hk1
  have hsl : s.data.toList.length = s.size := by simp
  have hsum := fed_sum s.data.toList
  have hfl := fed_length 0 s.data.toList
  have hM := last_le 0 s.data.toList (by omega)
  have HT := Lib.hid (tail_held s)
  have HP : Hid (s.data.toList.any (fun c => c == 5) = false → dataOf (fed 0 s.data.toList) = s.data.toList ∧ keysOf (fed 0 s.data.toList) = 0) := fed_plain
  rw [hsl] at hsum hfl
  generalize fed 0 s.data.toList = P at *
  generalize last 0 s.data.toList = M at *
  obtain ⟨A, ca, rfl, hm, _, ha⟩ := rdp_of rfl ra
  have HA := Lib.hid ha
  clear ha
  go_wp2
  go_loop [5, 6, 8] (fun n ks i => ∃ k : Nat, k ≤ P.length ∧ i = .int .i64 k ∧ n = .int .i64 ((dataOf (P.take k)).length : Nat) ∧ ks = .int .i64 (keysOf (P.take k) : Nat)) (fun _ _ i => P.length - (intOf i).toNat)
  case atStart => exact ⟨0, by omega, rfl, rfl, rfl⟩
  case round =>
    obtain ⟨k, hk, rfl, rfl, rfl⟩ := hrel
    by_cases hlt : k < P.length
    · obtain ⟨g1, o1, rfl, hg, c1⟩ := HA.out k hlt
      obtain ⟨l1, l2, l3⟩ := pcsV_at P k hlt
      have d1 := (c1 (k * 3) (by omega)).trans l1
      have d3 := (c1 (k * 3 + 2) (by omega)).trans l3
      rw [← Nat.add_assoc] at d3
      have g0 : (0 : Int) ≤ (k : Int) := by omega
      have g3 : (k : Int) < (P.length : Int) := by omega
      have hn1 : (dataOf (P.take (k + 1))).length = (dataOf (P.take k)).length + (⟨P[k].bytes.toArray⟩ : ByteArray).size := by
        rw [take_snocP P k hlt, dataOf_append, List.length_append]; simp [dataOf, ByteArray.size]
      have hk1 : keysOf (P.take (k + 1)) = keysOf (P.take k) + (if P[k].isKey then 1 else 0) := by
        rw [take_snocP P k hlt, keysOf_append]; simp [keysOf, List.filter]; split <;> simp_all
      have hdl : (dataOf (P.take (k + 1))).length ≤ (dataOf P).length := by
        conv => rhs; rw [← List.take_append_drop (k + 1) P, dataOf_append, List.length_append]
        omega
      have hkl : keysOf (P.take (k + 1)) ≤ keysOf P := by
        conv => rhs; rw [← List.take_append_drop (k + 1) P, keysOf_append]
        omega
      have HN := Lib.hid hn1
      have HK := Lib.hid hk1
      have hdl2 : (dataOf (P.take k)).length + (⟨P[k].bytes.toArray⟩ : ByteArray).size ≤ 600 := by omega
      have hkl2 : keysOf (P.take k) ≤ 600 := by split at hk1 <;> omega
      clear c1 l1 l2 l3 hn1 hk1 hdl hkl HT HP
      generalize (⟨P[k].bytes.toArray⟩ : ByteArray) = T at *
      generalize (dataOf (P.take k)).length = n at *
      generalize keysOf (P.take k) = q at *
      cases hkk : P[k].isKey with
      | true =>
        rw [hkk] at d3 HK
        go_wp2
        exact ⟨⟨k + 1, by omega, by go_num, by rw [HN.out]; go_num, by rw [HK.out]; go_num⟩, by simp [intOf]; omega⟩
      | false =>
        rw [hkk] at d3 HK
        go_wp2
        exact ⟨⟨k + 1, by omega, by go_num, by rw [HN.out]; go_num, by rw [HK.out]; rfl⟩, by simp [intOf]; omega⟩
    · have ek : k = P.length := by omega
      subst ek
      rw [List.take_length] at *
      clear HA
      go_wp2
      go_loop [7, 9] (fun has i => ∃ k : Nat, k ≤ s.size ∧ i = .int .i64 k ∧ has = .bool ((s.data.toList.take k).any (fun c => c == 5))) (fun _ i => s.size - (intOf i).toNat)
      case atStart => exact ⟨0, by omega, rfl, rfl⟩
      case round =>
        obtain ⟨k, hk, rfl, rfl⟩ := hrel
        by_cases hlt : k < s.size
        · have g0 : (0 : Int) ≤ (k : Int) := by omega
          have g3 : (k : Int) < (s.size : Int) := by omega
          have hs1 : (s.data.toList.take (k + 1)).any (fun c => c == 5) = ((s.data.toList.take k).any (fun c => c == 5) || s[k] == 5) := by rw [take_snoc s k hlt, List.any_append]; simp
          have HS := Lib.hid hs1
          clear hs1
          generalize (s.data.toList.take k).any (fun c => c == 5) = B at *
          cases B with
          | true =>
            go_wp2
            exact ⟨⟨k + 1, by omega, by go_num, by rw [HS.out]; rfl⟩, by simp [intOf]; omega⟩
          | false =>
            by_cases h5 : s[k] = 5
            · have hd : ((s[k].toNat : Int) == 5) = true := by rw [h5]; rfl
              have H5 := Lib.hid h5
              clear h5
              go_wp2
              exact ⟨⟨k + 1, by omega, by go_num, by rw [HS.out, H5.out]; rfl⟩, by simp [intOf]; omega⟩
            · have hd : ((s[k].toNat : Int) == 5) = false := (ne_u8 (k := 5) (by omega) h5).1
              have H5 : Hid ((s[k] == 5) = false) := beq_eq_false_iff_ne.2 h5
              clear h5
              go_wp2
              exact ⟨⟨k + 1, by omega, by go_num, by rw [HS.out, H5.out]; rfl⟩, by simp [intOf]; omega⟩
        · have ek : k = s.size := by omega
          subst ek
          rw [List.take_of_length_le (by simp)]
          obtain ⟨q, hq⟩ : ∃ q, s.size = q + M := ⟨s.size - M, by omega⟩
          have hex := HT.out q hq
          have hs1 : (s.size : Int) - (M : Int) = (q : Int) := by omega
          have hq0 : (0 : Int) ≤ (q : Int) := by omega
          have hq1 : (q : Int) ≤ (s.size : Int) := by omega
          have hpl : (pre M).length = M := by simp [pre]; omega
          have hne : (((dataOf P).length : Int) + 3 * (keysOf P : Int) + (M : Int) != (s.size : Int)) = false := by
            rw [bne_eq_false_iff_eq]; omega
          have hN : (dataOf P).length ≤ 600 := by omega
          have hK : keysOf P ≤ 600 := by omega
          clear HT hq hsum hsl hk hlt
          generalize hB : s.data.toList.any (fun c => c == 5) = B at *
          have HB := Lib.hid hB
          clear hB
          go_wp2_with fail
          refine (waits_any w.heap.size _ w1 hg1 M rfl).mono ?_; rintro e w' ⟨rfl, rfl⟩
          go_wp2_with fail
          refine (waits_any w.heap.size _ w1 hg1 M rfl).mono ?_; rintro e w' ⟨rfl, rfl⟩
          go_wp2_with fail
          refine (flush_any w.heap.size M w1 hM hg1).mono ?_
          rintro e w2 ⟨rfl, hg2, hk2⟩
          have ra2 := own_kept ra hk2 hs0
          have hb2 := ge_below hb1 hk2 (Nat.le_refl _)
          clear hg1 hb1 hk2 ra hg2
          have hpz : (⟨(pre M).toArray⟩ : ByteArray).size = M := by simp [ByteArray.size, hpl]
          cases B with
          | true =>
            go_wp2_with (go_at_call 26; refine (works26 _).mono ?_; rintro e w3 ⟨rfl, hb3⟩)
            go_ret
            exact ⟨rfl, below_then hb2 hb3⟩
          | false =>
            obtain ⟨h1, h2⟩ := HP.out rfl
            have hS : (⟨(dataOf P).toArray⟩ : ByteArray) = s := by rw [h1]
            have hkz : (keysOf P : Int) = 0 := by omega
            clear h1 h2
            go_wp2_with fail
            refine (dataP w0.heap.size P.length _ P w2 rfl (by omega) ra2).mono ?_
            rintro e w' ⟨rfl, rfl⟩
            rw [hS]
            go_wp2_with (go_at_call 26; refine (works26 _).mono ?_; rintro e w3 ⟨rfl, hb3⟩)
            go_ret
            exact ⟨rfl, below_then hb2 hb3⟩

theorem keeps_all (s : ByteArray) (w : World) : Calls Try.prog 9 #[.string s] w fun e w' => e = .returned (.bool true) ∧ Below w.heap.size w w' := by
  by_cases h : 600 < s.size
  · exact keeps_big s w h
  · exact keeps_small s w (by omega)

end Go.Proofs.Ytdgbhbifeohfjaa
