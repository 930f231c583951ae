/- The walks of the reference's Lines and of Same. -/
import Derived.Test.YtdgbhbifeohfjaaTextE
namespace Go.Proofs.Ytdgbhbifeohfjaa
open Go.RowKit

def RLPost (w : World) (m : Nat) (s : List UInt8) (e : Ending) (w' : World) : Prop :=
  ∃ (v : Value) (R : ByteArray), e = .returned (.tuple #[v, .string R]) ∧ R.data.toList = (fd m [] s).2 ∧ w'.ownsRow w.heap.size 44 2 v (fd m [] s).1.length (linesV (fd m [] s).1) ∧ Below w.heap.size w w'

set_option maxRecDepth 100000 in
set_option maxHeartbeats 2000000 in
theorem rlines24 (s : ByteArray) (m : Nat) (w : World) (hm : m ≤ 4096) (hs : s.size ≤ 100000) : Calls Try.prog 22 #[.string s, .int .i64 (m : Int)] w (RLPost w m s.data.toList) := by
  obtain ⟨i0, hi, hz0, hz1, hz2⟩ := info_parts Try.info44
  go_enter Try.func22, Try.ntmps22
  go_wp2
  go_loopw [6, 7, 8] (fun out from_ i wr => ∃ k fr : Nat, k ≤ s.size ∧ fr ≤ k ∧ i = .int .i64 k ∧ from_ = .int .i64 fr ∧ Hid ((s.data.toList.take k).drop fr = (fd m [] (s.data.toList.take k)).2) ∧ wr.ownsRow w.heap.size 44 2 out (fd m [] (s.data.toList.take k)).1.length (linesV (fd m [] (s.data.toList.take k)).1) ∧ Below w.heap.size w wr) (fun _ _ i _ => s.size - (intOf i).toNat)
  case atStart => exact ⟨0, 0, by omega, by omega, rfl, rfl, rfl, World.ownsRow_nil _ _ _ _, Below.refl _ _⟩
  case round =>
    obtain ⟨k, fr, hk, hfk, rfl, rfl, HP, hown, hb⟩ := hrel
    by_cases hlt : k < s.size
    · have HS := Lib.hid (show fd m [] (s.data.toList.take (k + 1)) = _ by rw [take_snoc s k hlt, fd_snoc])
      have HT := Lib.hid (take_snoc s k hlt)
      have hlen := (fd_length m (s.data.toList.take k) []).1
      rw [List.length_take] at hlen
      have hlr : (fd m [] (s.data.toList.take k)).1.length ≤ 100000 := by omega
      clear hlen
      generalize fd m [] (s.data.toList.take k) = r at *
      by_cases h10 : s[k] = 10
      · have hd : ((s[k].toNat : Int) == 10) = true := by rw [h10]; rfl
        have hex : (s.extract fr k).size ≤ 100000 := by rw [ByteArray.size_extract]; omega
        have HX : Hid ((s.extract fr k).data.toList = r.2) := by
          unfold Hid
          rw [← HP.out, Lib.extract_data, List.drop_take]
        have H10 := Lib.hid h10
        clear h10
        go_wp2_with fail
        refine (rline_any (s.extract fr k) m _ hm hex).mono ?_
        rintro e w1 ⟨rfl, hb1⟩
        rw [HX.out]
        have hown1 := own_below hown hb1
        have hb2 := below_then hb hb1
        have HL := Lib.hid (rfl : lineCells (lineOf m r.2) = lineCells (lineOf m r.2))
        clear hown hb hb1 hex
        go_wp2_with (at_builtin; refine wpList_append_own _ rfl _ _ 36 rfl w.heap.size 44 i0 (.agg #[.string ⟨#[]⟩, .int .i64 0]) 2 24 Try.underlying36 hi hz0 hz1 hz2 rfl (by decide) _ _ _ rfl (hown1.alloc _) ⟨w1.heap.size, 0, none⟩ 1 1 (lineCells (lineOf m r.2)) rfl rfl ?c1 ?c2 ?c3 ?c4 ?c5 ?_)
        case c1 => exact World.news_of_block (cs := #[.string ⟨(lineOf m r.2).1.toArray⟩, .int .i64 (lineOf m r.2).2]) (heap_alloc_new w1 _)
        case c2 => intro u hu; simp [lineCells] at hu; rcases hu with rfl | rfl <;> rfl
        case c3 => unfold maxLen; omega
        case c4 => omega
        case c5 => have := hb2.size; simp; omega
        intro v' w2 hown' hgrow _
        have hb3 : Below w.heap.size w w2 := (hb2.alloc hb2.size _).grown hgrow (by have := hb2.size; simp; omega) (own_grown_ge hown1)
        have hown5 : w2.ownsRow w.heap.size 44 2 v' (r.1 ++ [lineOf m r.2]).length (linesV (r.1 ++ [lineOf m r.2])) := by
          rw [linesV_append, List.length_append]
          have e : linesV [lineOf m r.2] = lineCells (lineOf m r.2) := by simp [linesV]
          rw [e]; exact hown'
        clear hown1 hown' hgrow hb2
        go_wp2
        refine ⟨⟨k + 1, k + 1, by omega, by omega, by go_num, by go_num, ?_, ?_, hb3⟩, by simp [intOf]; omega⟩
        · unfold Hid
          rw [HS.out, if_pos H10.out]
          exact List.drop_of_length_le (by rw [List.length_take]; omega)
        · rw [HS.out, if_pos H10.out]; exact hown5
      · have hd : ((s[k].toNat : Int) == 10) = false := by rw [beq_eq_false_iff_ne]; intro e; exact h10 (UInt8.toNat_inj.1 (by show _ = 10; omega))
        have H10 := Lib.hid h10
        clear h10
        go_wp2
        refine ⟨⟨k + 1, fr, by omega, by omega, by go_num, rfl, ?_, ?_, hb⟩, by simp [intOf]; omega⟩
        · unfold Hid
          rw [HS.out, if_neg H10.out, HT.out, List.drop_append_of_le_length (by rw [List.length_take]; simp; omega), HP.out]
        · rw [HS.out, if_neg H10.out]; exact hown
    · have ek : k = s.size := by omega
      subst ek
      have e1 : s.data.toList.take s.size = s.data.toList := List.take_of_length_le (by simp)
      rw [e1] at hown HP
      have hsl : ∀ W, (Instr.slice 9 (.string s) (some (.int .i64 (fr : Int))) none none).run Try.prog W = .ok (.string (s.extract fr s.size)) W := fun W => by
        rw [run_slice_string_from_if W 9 s .i64 _ Try.underlying9, if_pos (by omega)]; rfl
      clear e1
      go_wp2
      go_quiet (fail)
      go_wp2
      go_ret2
      exact ⟨_, _, rfl, by rw [Lib.extract_to_end]; exact HP.out, hown, drawnN hb _⟩

theorem linesV_at (ls : List (List UInt8 × Int)) (j : Nat) (hj : j < ls.length) : (linesV ls)[j * 2]? = some (.string ⟨(ls[j]).1.toArray⟩) ∧ (linesV ls)[j * 2 + 1]? = some (.int .i64 (ls[j]).2) := by
  induction ls generalizing j with
  | nil => simp at hj
  | cons l ls ih =>
    cases j with
    | zero => exact ⟨rfl, rfl⟩
    | succ j =>
      have := ih j (by simpa using hj)
      have e : linesV (l :: ls) = lineCells l ++ linesV ls := rfl
      rw [e]
      constructor
      · rw [List.getElem?_append_right (by simp [lineCells]; omega)]
        have : (j + 1) * 2 - (lineCells l).length = j * 2 := by simp [lineCells]; omega
        rw [this]; exact (ih j (by simpa using hj)).1
      · rw [List.getElem?_append_right (by simp [lineCells]; omega)]
        have : (j + 1) * 2 + 1 - (lineCells l).length = j * 2 + 1 := by simp [lineCells]; omega
        rw [this]; exact (ih j (by simpa using hj)).2

end Go.Proofs.Ytdgbhbifeohfjaa
