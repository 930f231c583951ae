/- The walks of menu.Lines and of its reference. -/
import Derived.Test.YtdgbhbifeohfjaaMenuD
namespace Go.Proofs.Ytdgbhbifeohfjaa
open Go.RowKit
attribute [local go_sem ↓] Go.wp_at_zero Go.wp_at_succ

def strsV (l : List (List UInt8)) : List Value := l.map fun s => .string ⟨s.toArray⟩
theorem strsV_append (l m : List (List UInt8)) : strsV (l ++ m) = strsV l ++ strsV m := by simp [strsV]
theorem strsV_length (l : List (List UInt8)) : (strsV l).length = l.length := by simp [strsV]
/-- A row of strings of the call's own is handed back. -/
def RetStrs (l : List (List UInt8)) (w : World) (e : Ending) (w' : World) : Prop := ∃ v, e = .returned v ∧ w'.ownsRow w.heap.size 9 1 v l.length (strsV l) ∧ Below w.heap.size w w'

/-- One byte, as a string. -/
theorem str_one (W : World) (b : Nat) (hb : W.heap.size = b) (c : Nat) (hc : c ≤ 255) : (convert 68 9 (.slice (some ⟨b, 0, none⟩) 1 1)).run Try.prog (W.alloc (.cells #[.int .u8 (c : Int)] 5)) = .ok (.string ⟨#[UInt8.ofNat c]⟩) (W.alloc (.cells #[.int .u8 (c : Int)] 5)) := by
  subst hb
  refine run_convert_bytes_back _ 68 9 5 _ 1 [UInt8.ofNat c] Try.underlying68 Try.underlying5 Try.underlying9 (fun j hj => ?_)
  have : j = 0 := by simp at hj; omega
  subst this
  have e : (⟨W.heap.size, 0, none⟩ : Addr).add 0 = ⟨W.heap.size, 0, none⟩ := rfl
  rw [e, World.cell?_alloc_mark]
  simp
  omega

set_option maxRecDepth 100000 in
set_option maxHeartbeats 1000000 in
theorem lines_any (level : Int) (w : World) : Calls Try.prog 16 #[.int .i64 level] w (RetStrs (mAll (lc level)) w) := by
  obtain ⟨i0, hi, hz0, hz1, hz2⟩ := info_parts Try.info9
  go_enter Try.func16, Try.ntmps16
  go_wp2_with (go_at_call 34; refine (items_any _).mono ?_; rintro e w' ⟨rfl, rfl⟩)
  go_loopw [3, 8] (fun b i wr => ∃ k : Nat, k ≤ 13 ∧ i = .int .i64 k ∧ wr.ownsRow (w.heap.size + 1) 9 1 b (mTo (lc level) k).length (strsV (mTo (lc level) k)) ∧ Below (w.heap.size + 1) (w.alloc (.cells itemCells 65)) wr) (fun _ i _ => 13 - (intOf i).toNat)
  case atStart => exact ⟨0, by omega, rfl, World.ownsRow_nil _ _ _ _, Below.refl _ _⟩
  case round =>
    obtain ⟨k, hk, rfl, hown, hb⟩ := hrel
    have hsz : w.heap.size < wr.heap.size := by have := hb.size; simp at this; omega
    by_cases hlt : k < 13
    · obtain ⟨c0, c1, c2, c3⟩ := item_at w wr hb k hlt
      have hkb := mAt_key_bd k
      obtain ⟨l1, l3, ls⟩ := mAt_facts ⟨k, hlt⟩
      simp only [] at l1 l3 ls
      have HG := Lib.hid (lc_ge (level := level) l1 l3)
      have HS := Lib.hid (mTo_succ (lc level) k)
      have HL := mTo_length (lc level) k
      by_cases hle : ((mAt k).level : Int) ≤ level
      · have hcv := str_one (wr.alloc (.cells #[.int .u8 ((mAt k).key : Int), .int .i64 ((mAt k).act : Int), .int .i64 ((mAt k).level : Int), .string ⟨(mAt k).says.toArray⟩] 65)) (wr.heap.size + 1) (by simp) (mAt k).key hkb
        go_wp2_with (at_builtin; refine wpList_append_own _ rfl _ _ 24 rfl (w.heap.size + 1) 9 i0 (.string ⟨#[]⟩) 1 16 Try.underlying24 hi hz0 hz1 hz2 rfl (by decide) _ _ _ rfl (((hown.alloc _).alloc _).alloc _) ⟨_, 0, none⟩ 1 1 [.string (((⟨#[UInt8.ofNat (mAt k).key]⟩ : ByteArray) ++ ⟨#[32]⟩) ++ ⟨(mAt k).says.toArray⟩)] rfl rfl ?c1 ?c2 ?c3 ?c4 ?c5 ?_)
        case c1 => exact cell_one_at _ _ (by simp) _ _
        case c2 => intro u hu; simp at hu; subst hu; rfl
        case c3 => unfold maxLen; omega
        case c4 => omega
        case c5 => simp; omega
        intro v' w2 hown' hgrow _
        have hb3 : Below (w.heap.size + 1) (w.alloc (.cells itemCells 65)) w2 := (((hb.alloc (by omega) _).alloc (by simp; omega) _).alloc (by simp; omega) _).grown hgrow (by simp; omega) (own_grown_ge hown)
        have HE : mTo (lc level) (k + 1) = mTo (lc level) k ++ [mLine (mAt k)] := by rw [HS.out, if_pos (HG.out.1 hle)]
        have HX : strsV (mTo (lc level) (k + 1)) = strsV (mTo (lc level) k) ++ [.string (((⟨#[UInt8.ofNat (mAt k).key]⟩ : ByteArray) ++ ⟨#[32]⟩) ++ ⟨(mAt k).says.toArray⟩)] := by
          rw [HE, strsV_append]
          congr 1
        have HN : (mTo (lc level) (k + 1)).length = (mTo (lc level) k).length + 1 := by rw [HE]; simp
        rw [← HX, ← HN] at hown'
        clear HX HN HE hown hgrow hb hcv
        go_wp2
        refine ⟨⟨k + 1, by omega, by go_num, hown', hb3⟩, by simp [intOf]; omega⟩
      · have HE : mTo (lc level) (k + 1) = mTo (lc level) k := by rw [HS.out, if_neg (fun h => hle (HG.out.2 h)), List.append_nil]
        have HE' := Lib.hid HE
        clear HE
        go_wp2
        refine ⟨⟨k + 1, by omega, by go_num, by rw [HE'.out]; exact hown.alloc _, hb.alloc (by omega) _⟩, by simp [intOf]; omega⟩
    · have e13 : k = 13 := by omega
      subst e13
      have HG := Lib.hid (lc_ge (level := level) (k := 2) (by omega) (by omega))
      have HL := mTo_length (lc level) 13
      by_cases h2 : 2 ≤ level
      · go_wp2_with (at_builtin; refine wpList_append_own _ rfl _ _ 24 rfl (w.heap.size + 1) 9 i0 (.string ⟨#[]⟩) 1 16 Try.underlying24 hi hz0 hz1 hz2 rfl (by decide) _ _ _ rfl (hown.alloc _) ⟨_, 0, none⟩ 1 1 [.string ⟨brkLine.toArray⟩] rfl rfl ?c6 ?c7 ?c8 ?c9 ?c10 ?_)
        case c6 => exact cell_one_new _ _ _
        case c7 => intro u hu; simp at hu; subst hu; rfl
        case c8 => unfold maxLen; omega
        case c9 => omega
        case c10 => simp; omega
        intro v' w2 hown' hgrow _
        have hb3 : Below (w.heap.size + 1) (w.alloc (.cells itemCells 65)) w2 := (hb.alloc (by omega) _).grown hgrow (by simp; omega) (own_grown_ge hown)
        have HE : mAll (lc level) = mTo (lc level) 13 ++ [brkLine] := by unfold mAll; rw [if_pos (HG.out.1 h2)]
        have HX : strsV (mAll (lc level)) = strsV (mTo (lc level) 13) ++ [.string ⟨brkLine.toArray⟩] := by rw [HE, strsV_append]; rfl
        have HN : (mAll (lc level)).length = (mTo (lc level) 13).length + 1 := by rw [HE]; simp
        rw [← HX, ← HN] at hown'
        clear HX HN HE hown hgrow hb
        go_wp2
        go_ret
        exact ⟨_, rfl, own_base hown' (by omega), ((Below.refl _ _).alloc (Nat.le_refl _) _).trans (hb3.mono (by omega))⟩
      · have HE : mAll (lc level) = mTo (lc level) 13 := by unfold mAll; rw [if_neg (fun h => h2 (HG.out.2 h)), List.append_nil]
        have HE' := Lib.hid HE
        clear HE
        go_wp2
        go_ret
        exact ⟨_, rfl, by rw [HE'.out]; exact own_base hown (by omega), ((Below.refl _ _).alloc (Nat.le_refl _) _).trans (hb.mono (by omega))⟩

end Go.Proofs.Ytdgbhbifeohfjaa
