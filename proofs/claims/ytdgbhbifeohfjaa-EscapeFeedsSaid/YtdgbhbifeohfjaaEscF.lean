/- The walk of the reference's Told. -/
import Derived.Test.YtdgbhbifeohfjaaEscE
namespace Go.Proofs.Ytdgbhbifeohfjaa
open Go.RowKit

def TG (o : List Pc) (d r : List UInt8) : List Pc × Nat := (flush ((toks 0 r).foldl accT (o, d)).1 ((toks 0 r).foldl accT (o, d)).2, last 0 r)
theorem TG_tell (s : List UInt8) : TG [] [] s = tell s := rfl
theorem TG_nil (o : List Pc) (d : List UInt8) : TG o d [] = (flush o d, 0) := rfl
theorem TG_plain (o : List Pc) (d : List UInt8) (c : UInt8) (r : List UInt8) (hc : c ≠ 5) : TG o d (c :: r) = TG o (d ++ [c]) r := by
  simp [TG, toks, evs, last, stp, Ev.toks, accT, hc]
theorem TG_one (o : List Pc) (d : List UInt8) : TG o d [5] = (flush o d, 1) := by simp [TG, toks, evs, last, stp, Ev.toks]
theorem TG_five (o : List Pc) (d r : List UInt8) : TG o d (5 :: 5 :: r) = TG o (d ++ [5]) (5 :: r) := by simp [TG, toks, evs, last, stp, Ev.toks, accT]
theorem TG_two (o : List Pc) (d r : List UInt8) (e : UInt8) (h5 : e ≠ 5) (h9 : e ≠ 99) : TG o d (5 :: e :: r) = TG o (d ++ [5, e]) r := by simp [TG, toks, evs, last, stp, Ev.toks, accT, h5, h9]
theorem TG_both (o : List Pc) (d : List UInt8) : TG o d [5, 99] = (flush o d, 2) := by simp [TG, toks, evs, last, stp, Ev.toks]
theorem TG_key (o : List Pc) (d r : List UInt8) (k : UInt8) : TG o d (5 :: 99 :: k :: r) = TG (flush o d ++ [.press k]) [] r := by simp [TG, toks, evs, last, stp, Ev.toks, accT]

theorem dropB (s : ByteArray) (k : Nat) (h : k < s.size) : s.data.toList.drop k = s[k] :: s.data.toList.drop (k + 1) := by
  rw [List.drop_eq_getElem_cons (by simpa using h)]; rfl
theorem dropEnd (s : ByteArray) (k : Nat) (h : s.size ≤ k) : s.data.toList.drop k = [] := List.drop_of_length_le (by simpa using h)
theorem ne_u8 {c : UInt8} {k : Nat} (hk : k < 256) (h : c ≠ UInt8.ofNat k) : ((c.toNat : Int) == (k : Int)) = false ∧ ((c.toNat : Int) != (k : Int)) = true := by
  have : (c.toNat : Int) ≠ (k : Int) := fun e => h (UInt8.toNat_inj.1 (by rw [UInt8.toNat_ofNat']; omega))
  exact ⟨beq_eq_false_iff_ne.2 this, bne_iff_ne.2 this⟩

theorem full_of {D : ByteArray} (h : ¬ D.size = 0) : D.toList.isEmpty = false := by
  rw [Lib.toList_data, List.isEmpty_eq_false_iff]; intro e; apply h
  have : D.data.toList.length = 0 := by rw [e]; rfl
  simpa using this
theorem ext1 (D s : ByteArray) (k : Nat) (h : k < s.size) : (D ++ s.extract k (k + 1)).data.toList = D.data.toList ++ [s[k]] := by
  rw [ByteArray.data_append, Array.toList_append, Lib.extract_data, dropB s k h, Nat.add_sub_cancel_left]
  rfl
theorem ext2 (D s : ByteArray) (k : Nat) (h : k + 1 < s.size) : (D ++ s.extract k (k + 2)).data.toList = D.data.toList ++ [s[k], s[k + 1]] := by
  rw [ByteArray.data_append, Array.toList_append, Lib.extract_data, dropB s k (by omega), dropB s (k + 1) h, Nat.add_sub_cancel_left]
  rfl
def ToldPost (s : List UInt8) (w : World) (e : Ending) (w' : World) : Prop :=
  ∃ v, e = .returned (.tuple #[v, .int .i64 ((tell s).2 : Int)]) ∧ w'.ownsRow w.heap.size 58 3 v (tell s).1.length (pcsV (tell s).1) ∧ Below w.heap.size w w'

set_option maxRecDepth 100000 in
set_option maxHeartbeats 4000000 in
theorem told_any (s : ByteArray) (w : World) (hs : s.size ≤ 10000) : Calls Try.prog 30 #[.string s] w (ToldPost s.data.toList w) := by
  obtain ⟨i8, hi8, hz8, hs8, hb8⟩ := info_parts Try.info58
  go_enter Try.func30, Try.ntmps30
  go_wp2
  go_loopw [4, 5, 6] (fun out data i wr => ∃ (k : Nat) (O : List Pc) (D : ByteArray), k ≤ s.size ∧ i = .int .i64 k ∧ data = .string D ∧ Hid (tell s.data.toList = TG O D.data.toList (s.data.toList.drop k)) ∧ D.size ≤ k ∧ O.length ≤ 2 * k ∧ wr.ownsRow w.heap.size 58 3 out O.length (pcsV O) ∧ Below w.heap.size w wr) (fun _ _ i _ => s.size - (intOf i).toNat)
  case atStart => exact ⟨0, [], ⟨#[]⟩, by omega, rfl, rfl, rfl, Nat.le_refl _, Nat.le_refl _, World.ownsRow_nil _ _ _ _, Below.refl _ _⟩
  case round =>
    obtain ⟨k, O, D, hk, rfl, rfl, HP, hDk, hOk, hown, hb⟩ := hrel
    by_cases hlt : k < s.size
    · have g0 : (0 : Int) ≤ (k : Int) := by omega
      have g3 : (k : Int) < (s.size : Int) := by omega
      have HK := Lib.hid (dropB s k hlt)
      have X0 := HP.out
      rw [HK.out] at X0
      clear HP HK
      have hwk1 : IntKind.i64.wrap ((k : Int) + 1) = (k : Int) + 1 := IntWalk.i64_in _ (by omega)
      by_cases h5 : s[k] = 5
      · have hd1 : ((s[k].toNat : Int) == 5) = true := by rw [h5]; rfl
        have hd2 : ((s[k].toNat : Int) != 5) = false := by rw [h5]; rfl
        rw [h5] at X0
        by_cases hk1 : k + 1 < s.size
        · have hlt1 : (k : Int) + 1 < (s.size : Int) := by omega
          have g4 : (k : Int) + 1 ≤ (s.size : Int) := by omega
          have g5 : (0 : Int) ≤ (k : Int) + 1 := by omega
          have HK1 := Lib.hid (dropB s (k + 1) hk1)
          by_cases he5 : s[k + 1] = 5
          · have hd3 : ((s[k + 1].toNat : Int) == 5) = true := by rw [he5]; rfl
            have HX : Hid (tell s.data.toList = TG O (D ++ s.extract k (k + 1)).data.toList (s.data.toList.drop (k + 1))) := by
              unfold Hid
              rw [X0, HK1.out, he5, TG_five, ext1 D s k hlt, h5]
            have H5 := Lib.hid h5
            clear X0 he5 h5
            go_wp2
            exact ⟨⟨k + 1, O, _, by omega, by go_num, rfl, HX, by rw [ByteArray.size_append, ByteArray.size_extract]; omega, by omega, hown, hb⟩, by simp [intOf]; omega⟩
          · have hd := ne_u8 (k := 5) (by omega) he5
            have hd3 : ((s[k + 1].toNat : Int) == 5) = false := hd.1
            clear hd
            by_cases he9 : s[k + 1] = 99
            · have hd4 : ((s[k + 1].toNat : Int) == 99) = true := by rw [he9]; rfl
              have hd5 : ((s[k + 1].toNat : Int) != 99) = false := by rw [he9]; rfl
              have X1 : tell s.data.toList = TG O D.data.toList (5 :: 99 :: s.data.toList.drop (k + 2)) := by rw [X0, HK1.out, he9]
              clear X0 HK1 he9 h5 he5
              by_cases hk2 : k + 2 < s.size
              · have hlt2 : (k : Int) + 2 < (s.size : Int) := by omega
                have g6 : (0 : Int) ≤ (k : Int) + 2 := by omega
                have HX : Hid (tell s.data.toList = TG (flush O D.data.toList ++ [.press s[k + 2]]) [] (s.data.toList.drop (k + 3))) := by
                  unfold Hid
                  rw [X1, dropB s (k + 2) hk2, TG_key]
                clear X1
                by_cases hD : D.size = 0
                · obtain rfl : D = ByteArray.empty := ByteArray.size_eq_zero_iff.1 hD
                  have HX2 : Hid (tell s.data.toList = TG (O ++ [.press s[k + 2]]) [] (s.data.toList.drop (k + 3))) := HX.out
                  clear HX
                  go_wp2_with (at_builtin; refine wpList_append_own _ rfl _ _ 50 rfl w.heap.size 58 i8 (.agg #[.string ⟨#[]⟩, .int .u8 0, .bool false]) 3 24 Try.underlying50 hi8 hz8 hs8 hb8 rfl (by decide) _ _ _ rfl (hown.alloc _) ⟨_, 0, none⟩ 1 1 (Pc.press s[k + 2]).cells rfl (cells_len _) ?d1 (cells_one _) ?d3 ?d4 ?d5 ?_)
                  case d1 => exact World.news_of_block (cs := #[.string ⟨#[]⟩, .int .u8 (s[k + 2].toNat : Int), .bool true]) (heap_alloc_new wr _)
                  case d3 => unfold maxLen; omega
                  case d4 => omega
                  case d5 => have := hb.size; simp; omega
                  intro v2 w2 hown2 hgrow2 _
                  have hb2 : Below w.heap.size w w2 := (hb.alloc hb.size _).grown hgrow2 (by have := hb.size; simp; omega) (own_grown_ge hown)
                  have hown3 := push_fin (p := .press s[k + 2]) hown2
                  clear hown hown2 hgrow2 hb
                  go_wp2
                  exact ⟨⟨k + 3, O ++ [.press s[k + 2]], ⟨#[]⟩, by omega, by go_num, rfl, HX2, Nat.zero_le _, by simp; omega, hown3, hb2⟩, by simp [intOf]; omega⟩
                · have hbne := full_of hD
                  have hfl : flush O D.data.toList = O ++ [.data D.data.toList] := by
                    unfold flush
                    rw [if_neg]
                    intro e
                    apply hD
                    have : D.data.toList.length = 0 := by rw [e]; rfl
                    simpa using this
                  rw [hfl] at HX
                  have hcl : (Pc.data D.data.toList).cells = [.string D, .int .u8 0, .bool false] := rfl
                  clear hfl hD
                  go_wp2_with (at_builtin; refine wpList_append_own _ rfl _ _ 50 rfl w.heap.size 58 i8 (.agg #[.string ⟨#[]⟩, .int .u8 0, .bool false]) 3 24 Try.underlying50 hi8 hz8 hs8 hb8 rfl (by decide) _ _ _ rfl (hown.alloc _) ⟨_, 0, none⟩ 1 1 (Pc.data D.data.toList).cells rfl (cells_len _) ?e1 (cells_one _) ?e3 ?e4 ?e5 ?_)
                  case e1 => rw [hcl]; exact World.news_of_block (heap_alloc_new wr _)
                  case e3 => unfold maxLen; omega
                  case e4 => omega
                  case e5 => have := hb.size; simp; omega
                  intro v2 w2 hown2 hgrow2 _
                  rw [← hcl] at hown2
                  have hb2 : Below w.heap.size w w2 := (hb.alloc hb.size _).grown hgrow2 (by have := hb.size; simp; omega) (own_grown_ge hown)
                  have hown3 := push_fin hown2
                  have hlO : (O ++ [Pc.data D.data.toList]).length = O.length + 1 := by simp
                  clear hown hown2 hgrow2 hb hcl
                  generalize O ++ [Pc.data D.data.toList] = O2 at *
                  go_wp2_with (at_builtin; refine wpList_append_own _ rfl _ _ 50 rfl w.heap.size 58 i8 (.agg #[.string ⟨#[]⟩, .int .u8 0, .bool false]) 3 24 Try.underlying50 hi8 hz8 hs8 hb8 rfl (by decide) _ _ _ rfl (hown3.alloc _) ⟨_, 0, none⟩ 1 1 (Pc.press s[k + 2]).cells rfl (cells_len _) ?f1 (cells_one _) ?f3 ?f4 ?f5 ?_)
                  case f1 => exact World.news_of_block (cs := #[.string ⟨#[]⟩, .int .u8 (s[k + 2].toNat : Int), .bool true]) (heap_alloc_new w2 _)
                  case f3 => unfold maxLen; omega
                  case f4 => omega
                  case f5 => have := hb2.size; simp; omega
                  intro v4 w4 hown4 hgrow4 _
                  have hb4 : Below w.heap.size w w4 := (hb2.alloc hb2.size _).grown hgrow4 (by have := hb2.size; simp; omega) (own_grown_ge hown3)
                  rw [← hlO] at hown4
                  have hown5 := push_fin (p := .press s[k + 2]) hown4
                  clear hown3 hown4 hgrow4 hb2
                  go_wp2
                  exact ⟨⟨k + 3, O2 ++ [.press s[k + 2]], ⟨#[]⟩, by omega, by go_num, rfl, HX, Nat.zero_le _, by simp; omega, hown5, hb4⟩, by simp [intOf]; omega⟩
              · have HT : Hid (tell s.data.toList = (flush O D.data.toList, 2)) := by unfold Hid; rw [X1, dropEnd s (k + 2) (by omega), TG_both]
                clear X1
                have hsk : (s.size : Int) - (k : Int) = 2 := by omega
                have hge : (s.size : Int) ≤ (k : Int) + 2 := by omega
                by_cases hD : D.size = 0
                · obtain rfl : D = ByteArray.empty := ByteArray.size_eq_zero_iff.1 hD
                  have hfl : flush O ByteArray.empty.data.toList = O := rfl
                  go_wp2
                  go_ret2
                  exact ⟨_, by rw [HT.out]; first | rfl | (show Ending.returned (.tuple #[_, .int .i64 _]) = _; congr; omega), by rw [HT.out, hfl]; exact hown, hb⟩
                · have hbne := full_of hD
                  have hfl : flush O D.data.toList = O ++ [.data D.data.toList] := by
                    unfold flush
                    rw [if_neg]
                    intro e
                    apply hD
                    have : D.data.toList.length = 0 := by rw [e]; rfl
                    simpa using this
                  have HF := Lib.hid hfl
                  have hcl : (Pc.data D.data.toList).cells = [.string D, .int .u8 0, .bool false] := rfl
                  clear hfl hD
                  go_wp2_with (at_builtin; refine wpList_append_own _ rfl _ _ 50 rfl w.heap.size 58 i8 (.agg #[.string ⟨#[]⟩, .int .u8 0, .bool false]) 3 24 Try.underlying50 hi8 hz8 hs8 hb8 rfl (by decide) _ _ _ rfl (hown.alloc _) ⟨_, 0, none⟩ 1 1 (Pc.data D.data.toList).cells rfl (cells_len _) ?c1 (cells_one _) ?c3 ?c4 ?c5 ?_)
                  case c1 => rw [hcl]; exact World.news_of_block (heap_alloc_new wr _)
                  case c3 => unfold maxLen; omega
                  case c4 => omega
                  case c5 => have := hb.size; simp; omega
                  intro v2 w2 hown2 hgrow2 _
                  rw [← hcl] at hown2
                  have hb2 : Below w.heap.size w w2 := (hb.alloc hb.size _).grown hgrow2 (by have := hb.size; simp; omega) (own_grown_ge hown)
                  have hown3 := push_fin hown2
                  rw [← HF.out] at hown3
                  clear hown hown2 hgrow2 hb hcl
                  go_wp2
                  go_ret2
                  exact ⟨_, by rw [HT.out]; first | rfl | (show Ending.returned (.tuple #[_, .int .i64 _]) = _; congr; omega), by rw [HT.out]; exact hown3, hb2⟩
            · have hd := ne_u8 (k := 99) (by omega) he9
              have hd4 : ((s[k + 1].toNat : Int) == 99) = false := hd.1
              have hd5 : ((s[k + 1].toNat : Int) != 99) = true := hd.2
              have HX : Hid (tell s.data.toList = TG O (D ++ s.extract k (k + 2)).data.toList (s.data.toList.drop (k + 2))) := by
                unfold Hid
                rw [X0, HK1.out, TG_two _ _ _ _ he5 he9, ext2 D s k hk1, h5]
              have g6 : (k : Int) + 2 ≤ (s.size : Int) := by omega
              clear X0 HK1 he9 h5 he5 hd
              go_wp2
              exact ⟨⟨k + 2, O, _, by omega, by go_num, rfl, HX, by rw [ByteArray.size_append, ByteArray.size_extract]; omega, by omega, hown, hb⟩, by simp [intOf]; omega⟩
        · have HT : Hid (tell s.data.toList = (flush O D.data.toList, 1)) := by unfold Hid; rw [X0, dropEnd s (k + 1) (by omega), TG_one]
          clear X0 h5
          have hsk : (s.size : Int) - (k : Int) = 1 := by omega
          have hge : (s.size : Int) ≤ (k : Int) + 1 := by omega
          by_cases hD : D.size = 0
          · obtain rfl : D = ByteArray.empty := ByteArray.size_eq_zero_iff.1 hD
            have hfl : flush O ByteArray.empty.data.toList = O := rfl
            go_wp2
            go_ret2
            exact ⟨_, by rw [HT.out]; first | rfl | (show Ending.returned (.tuple #[_, .int .i64 _]) = _; congr; omega), by rw [HT.out, hfl]; exact hown, hb⟩
          · have hbne := full_of hD
            have hfl : flush O D.data.toList = O ++ [.data D.data.toList] := by
              unfold flush
              rw [if_neg]
              intro e
              apply hD
              have : D.data.toList.length = 0 := by rw [e]; rfl
              simpa using this
            have HF := Lib.hid hfl
            have hcl : (Pc.data D.data.toList).cells = [.string D, .int .u8 0, .bool false] := rfl
            clear hfl hD
            go_wp2_with (at_builtin; refine wpList_append_own _ rfl _ _ 50 rfl w.heap.size 58 i8 (.agg #[.string ⟨#[]⟩, .int .u8 0, .bool false]) 3 24 Try.underlying50 hi8 hz8 hs8 hb8 rfl (by decide) _ _ _ rfl (hown.alloc _) ⟨_, 0, none⟩ 1 1 (Pc.data D.data.toList).cells rfl (cells_len _) ?b1 (cells_one _) ?b3 ?b4 ?b5 ?_)
            case b1 => rw [hcl]; exact World.news_of_block (heap_alloc_new wr _)
            case b3 => unfold maxLen; omega
            case b4 => omega
            case b5 => have := hb.size; simp; omega
            intro v2 w2 hown2 hgrow2 _
            rw [← hcl] at hown2
            have hb2 : Below w.heap.size w w2 := (hb.alloc hb.size _).grown hgrow2 (by have := hb.size; simp; omega) (own_grown_ge hown)
            have hown3 := push_fin hown2
            rw [← HF.out] at hown3
            clear hown hown2 hgrow2 hb hcl
            go_wp2
            go_ret2
            exact ⟨_, by rw [HT.out]; first | rfl | (show Ending.returned (.tuple #[_, .int .i64 _]) = _; congr; omega), by rw [HT.out]; exact hown3, hb2⟩
      · have hd := ne_u8 (k := 5) (by omega) h5
        have hd1 : ((s[k].toNat : Int) == 5) = false := hd.1
        have hd2 : ((s[k].toNat : Int) != 5) = true := hd.2
        rw [TG_plain _ _ _ _ h5, ← ext1 D s k hlt] at X0
        have HX := Lib.hid X0
        clear X0 h5 hd
        have g4 : (k : Int) + 1 ≤ (s.size : Int) := by omega
        go_wp2
        exact ⟨⟨k + 1, O, _, by omega, by go_num, rfl, HX, by rw [ByteArray.size_append, ByteArray.size_extract]; omega, by omega, hown, hb⟩, by simp [intOf]; omega⟩
    · have ek : k = s.size := by omega
      subst ek
      have HT : Hid (tell s.data.toList = (flush O D.data.toList, 0)) := by unfold Hid; rw [HP.out, dropEnd _ _ (Nat.le_refl _), TG_nil]
      clear HP
      by_cases hD : D.size = 0
      · obtain rfl : D = ByteArray.empty := ByteArray.size_eq_zero_iff.1 hD
        have hfl : flush O ByteArray.empty.data.toList = O := rfl
        go_wp2
        go_ret2
        exact ⟨_, by rw [HT.out]; first | rfl | (show Ending.returned (.tuple #[_, .int .i64 _]) = _; congr; omega), by rw [HT.out, hfl]; exact hown, hb⟩
      · have hbne := full_of hD
        have hfl : flush O D.data.toList = O ++ [.data D.data.toList] := by
          unfold flush
          rw [if_neg]
          intro e
          apply hD
          have : D.data.toList.length = 0 := by rw [e]; rfl
          simpa using this
        have HF := Lib.hid hfl
        have hcl : (Pc.data D.data.toList).cells = [.string D, .int .u8 0, .bool false] := rfl
        clear hfl hD
        go_wp2_with (at_builtin; refine wpList_append_own _ rfl _ _ 50 rfl w.heap.size 58 i8 (.agg #[.string ⟨#[]⟩, .int .u8 0, .bool false]) 3 24 Try.underlying50 hi8 hz8 hs8 hb8 rfl (by decide) _ _ _ rfl (hown.alloc _) ⟨_, 0, none⟩ 1 1 (Pc.data D.data.toList).cells rfl (cells_len _) ?a1 (cells_one _) ?a3 ?a4 ?a5 ?_)
        case a1 => rw [hcl]; exact World.news_of_block (heap_alloc_new wr _)
        case a3 => unfold maxLen; omega
        case a4 => omega
        case a5 => have := hb.size; simp; omega
        intro v2 w2 hown2 hgrow2 _
        rw [← hcl] at hown2
        have hb2 : Below w.heap.size w w2 := (hb.alloc hb.size _).grown hgrow2 (by have := hb.size; simp; omega) (own_grown_ge hown)
        have hown3 := push_fin hown2
        rw [← HF.out] at hown3
        clear hown hown2 hgrow2 hb hcl
        go_wp2
        go_ret2
        exact ⟨_, by rw [HT.out]; first | rfl | (show Ending.returned (.tuple #[_, .int .i64 _]) = _; congr; omega), by rw [HT.out]; exact hown3, hb2⟩

end Go.Proofs.Ytdgbhbifeohfjaa
