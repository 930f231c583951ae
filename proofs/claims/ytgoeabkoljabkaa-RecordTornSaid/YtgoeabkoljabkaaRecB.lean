/- Walks of Put, of both. -/
import Derived.Test.YtgoeabkoljabkaaRecA
namespace Go.Proofs.Ytgoeabkoljabkaa
open Go.RowKit
attribute [local go_sem ↓] Go.wp_at_zero Go.wp_at_succ

theorem number6 (base : Nat) (v : Value) (l : List UInt8) (n : Int) (m : Nat) (w : World) (hm : m = l.length) (hl : l.length ≤ 100) (hbase : base ≤ w.heap.size) (hown : w.ownsRow base 5 1 v m (bytesV l)) :
    Calls Try.prog 40 #[v, .int .i64 n, .int .i64 6] w fun e w' => NumPost base l 6 n w e w' := by subst hm; exact number_any base v l n 6 w (by omega) (by omega) hl hbase hown
theorem number2 (base : Nat) (v : Value) (l : List UInt8) (n : Int) (m : Nat) (w : World) (hm : m = l.length) (hl : l.length ≤ 100) (hbase : base ≤ w.heap.size) (hown : w.ownsRow base 5 1 v m (bytesV l)) :
    Calls Try.prog 40 #[v, .int .i64 n, .int .i64 2] w fun e w' => NumPost base l 2 n w e w' := by subst hm; exact number_any base v l n 2 w (by omega) (by omega) hl hbase hown
theorem strCells_eq (s : ByteArray) : Lib.strCells s = bytesV s.data.toList := rfl
theorem own_two (w : World) (base : Nat) (a b : UInt8) (hb : base ≤ w.heap.size) : (w.alloc (.cells #[.int .u8 (a.toNat : Int), .int .u8 (b.toNat : Int)] 5)).ownsRow base 5 1 (.slice (some ⟨w.heap.size, 0, none⟩) 2 2) 2 (bytesV [a, b]) :=
  ⟨rfl, .inr ⟨w.heap.size, 2, _, rfl, hb, heap_alloc_new w _, by omega, by unfold maxLen; omega, rfl, rfl⟩⟩
/-- An owned row of bytes that are some: as a string. -/
theorem own_str {w : World} {base n : Nat} {v : Value} {l : List UInt8} (h : w.ownsRow base 5 1 v n (bytesV l)) (h1 : 0 < n) :
    ∃ g cap, v = .slice (some ⟨g, 0, none⟩) n cap ∧ base ≤ g ∧ n ≤ cap ∧ cap ≤ maxLen ∧ l.length = n ∧ (∀ c, (convert 29 9 (.slice (some ⟨g, 0, none⟩) n c)).run Try.prog w = .ok (.string ⟨l.toArray⟩) w) := by
  have hl : l.length = n := by have := h.1; rw [bytesV_length] at this; omega
  rcases h.2 with ⟨_, h0⟩ | ⟨g, cap, cur, rfl, hg, hh, hn, hm, hs, ht⟩
  · omega
  · refine ⟨g, cap, rfl, hg, hn, hm, hl, fun c => ?_⟩
    refine str_of w g n c l hl (fun j hj => ?_)
    rw [World.ownsRow.cellAt (w := w) (g := g) (cap := cap) h j (by omega)]
    unfold bytesV
    rw [List.getElem?_map, List.getElem?_eq_getElem hj]; rfl

def putB (k a : Int) (s : ByteArray) : ByteArray := ⟨(putI (k, a, s.data.toList)).1.toArray⟩
def putC (k a : Int) (s : ByteArray) : Int := chk k a s.size
def PutPost (k a : Int) (s : ByteArray) (w : World) (e : Ending) (w' : World) : Prop :=
  e = .returned (.tuple #[.string (putB k a s), .int .i64 (putC k a s)]) ∧ Below w.heap.size w w'
theorem putB_no {k a : Int} {s : ByteArray} (h : chk k a s.size ≠ 0) : putB k a s = ⟨#[]⟩ := by
  unfold putB putI
  rw [if_neg (by rw [show (k, a, s.data.toList).2.2.length = s.size from by simp]; exact h)]
theorem putB_yes {k a : Int} {s : ByteArray} (h : chk k a s.size = 0) : putB k a s = ⟨(headL (k, a, s.data.toList) ++ s.data.toList).toArray⟩ ++ ⟨(putL (sAll 0 (headL (k, a, s.data.toList) ++ s.data.toList))).toArray⟩ := by
  unfold putB putI
  rw [if_pos (by rw [show (k, a, s.data.toList).2.2.length = s.size from by simp]; exact h), ba_app]
  rfl

theorem of_list (l : List UInt8) (w : World) (hl : l.length ≤ maxLen) :
    Calls Try.prog 12 #[.string ⟨l.toArray⟩] w fun e w' => e = .returned (.int .i64 (sAll 0 l)) ∧ w = w' := of_any ⟨l.toArray⟩ w (by show l.toArray.size ≤ _; simpa using hl)
theorem rof_list (l : List UInt8) (w : World) (hl : l.length ≤ maxLen) :
    Calls Try.prog 17 #[.string ⟨l.toArray⟩] w fun e w' => e = .returned (.int .i64 (sAll 0 l)) ∧ w = w' := rof_any ⟨l.toArray⟩ w (by show l.toArray.size ≤ _; simpa using hl)

set_option maxHeartbeats 1000000 in
theorem put_no_ (k a : Int) (s : ByteArray) (w : World) (h : chk k a s.size ≠ 0) :
    Calls Try.prog 27 #[itV k a s] w fun e w' => PutPost k a s w e w' := by
  unfold PutPost itV putC
  rw [putB_no h]
  have hb := (Below.refl w.heap.size w).alloc (Nat.le_refl _) (.cells #[.int .i64 k, .int .i64 a, .string s] 36)
  have hc : (chk k a s.size != 0) = true := by simpa using h
  go_enter Try.func27, Try.ntmps27
  go_wp2_with fail
  refine (check_any k a s _).mono ?_; rintro e w1 ⟨rfl, hb1⟩
  go_wp2_with fail
  go_ret2
  exact ⟨rfl, hb.trans (hb1.mono (by simp))⟩

set_option maxHeartbeats 1000000 in
theorem put_yes_ (k a : Int) (s : ByteArray) (w : World) (h : chk k a s.size = 0) :
    Calls Try.prog 27 #[itV k a s] w fun e w' => PutPost k a s w e w' := by
  obtain ⟨k1, k2, a1, a2, s1⟩ := chk_zero h
  unfold PutPost itV putC
  rw [putB_yes h]
  obtain ⟨i0, hi, hz0, hz1, hz2⟩ := info_parts Try.info5
  have hb := (Below.refl w.heap.size w).alloc (Nat.le_refl _) (.cells #[.int .i64 k, .int .i64 a, .string s] 36)
  go_enter Try.func27, Try.ntmps27
  go_wp2_with fail
  refine (check_any k a s _).mono ?_; rintro e w1 ⟨rfl, hb1⟩
  rw [h]
  have hbox : Whole w1 w.heap.size 36 #[.int .i64 k, .int .i64 a, .string s] := (Whole.new w 36 _).below hb1 (by simp)
  have hbb := hb.trans (hb1.mono (by simp))
  have hsz : w.heap.size + 1 ≤ w1.heap.size := by have := hb1.size; simpa using this
  have d0 := hbox.cell 0
  have d1 := hbox.cell 1
  have d2 := hbox.cell 2
  simp only [List.getElem?_toArray, List.getElem?_cons_zero, List.getElem?_cons_succ] at d0 d1 d2
  have hown := own_two w1 (w.heap.size + 1) 87 (UInt8.ofNat (k % 256).toNat) hsz
  have ek : ((UInt8.ofNat (k % 256).toNat).toNat : Int) = k := by rw [u8_of _ (by omega) (by omega)]; omega
  have e87 : (((87 : UInt8).toNat : Nat) : Int) = 87 := rfl
  rw [ek, e87] at hown
  have hx1 : Whole (w1.alloc (.cells #[.int .u8 87, .int .u8 k] 5)) w.heap.size 36 #[.int .i64 k, .int .i64 a, .string s] := hbox.alloc _
  have hbx := hbb.alloc (by omega) (.cells #[.int .u8 87, .int .u8 k] 5)
  have hsx : w.heap.size + 1 ≤ (w1.alloc (.cells #[.int .u8 87, .int .u8 k] 5)).heap.size := by simp; omega
  have c1 := hx1.cell 1
  simp only [List.getElem?_toArray, List.getElem?_cons_zero, List.getElem?_cons_succ] at c1
  clear hb hb1 ek e87 hbb hsz hbox
  go_wp2_with fail
  refine (number6 (w.heap.size + 1) _ [87, UInt8.ofNat (k % 256).toNat] a 2 _ rfl (by simp) hsx hown).mono ?_; rintro e w2 ⟨v2, rfl, hown2, hb2⟩
  have hx2 := hx1.below hb2 (by omega)
  have hbx2 := hbx.trans (hb2.mono (by omega))
  have hsx2 := Nat.le_trans hsx hb2.size
  clear hown hx1 hbx hsx hb2 c1 d0 d1 d2
  generalize w1.alloc (.cells #[.int .u8 87, .int .u8 k] 5) = w1' at *
  have c1 := hx2.cell 1
  have c2 := hx2.cell 2
  simp only [List.getElem?_toArray, List.getElem?_cons_zero, List.getElem?_cons_succ] at c1 c2
  go_wp2_with fail
  refine (number2 (w.heap.size + 1) _ ([87, UInt8.ofNat (k % 256).toNat] ++ be 6 a) s.size 8 _ (by simp [be_len]) (by simp [be_len]) hsx2 hown2).mono ?_; rintro e w3 ⟨v3, rfl, hown3, hb3⟩
  have hx3 := hx2.below hb3 (by omega)
  have hbx3 := hbx2.trans (hb3.mono (by omega))
  have hsx3 := Nat.le_trans hsx2 hb3.size
  clear hown2 hx2 hbx2 hsx2 hb3 c1 c2
  have c2 := hx3.cell 2
  simp only [List.getElem?_toArray, List.getElem?_cons_zero, List.getElem?_cons_succ] at c2
  have hown3' : w3.ownsRow (w.heap.size + 1) 5 1 v3 10 (bytesV (headL (k, a, s.data.toList))) := by
    have e : headL (k, a, s.data.toList) = [87, UInt8.ofNat (k % 256).toNat] ++ be 6 a ++ be 2 (s.size : Int) := by simp [headL]
    rw [e]
    have e2 : ([87, UInt8.ofNat (k % 256).toNat] ++ be 6 a).length + 2 = 10 := by simp [be_len]
    rw [e2] at hown3; exact hown3
  clear hown3
  go_wp2_with (at_builtin; refine Lib.wpList_append_own_string _ rfl _ _ 29 9 rfl (w.heap.size + 1) 5 i0 Try.underlying29 Try.underlying9 hi hz0 hz1 hz2 _ _ _ rfl hown3' s rfl ?c3 ?c4 hsx3 ?_)
  case c3 => unfold maxLen; omega
  case c4 => omega
  intro v4 w4 hown4 hgrow4 _
  have hb4 : Below w.heap.size w w4 := hbx3.grown hgrow4 (by omega) (fun i hi => by have := own_grown_ge hown3' i hi; omega)
  have hown4' : w4.ownsRow (w.heap.size + 1) 5 1 v4 (10 + s.size) (bytesV (headL (k, a, s.data.toList) ++ s.data.toList)) := by rw [bytesV_append]; exact hown4
  obtain ⟨g, cap, rfl, hg, hn, hm, hl, hstr⟩ := own_str hown4' (by omega)
  have hst := hstr ((10 : Nat) + s.size)
  have hll : (headL (k, a, s.data.toList) ++ s.data.toList).length ≤ maxLen := by rw [hl]; unfold maxLen; omega
  clear hown3' hown4 hown4' hgrow4 hx3 hbx3 hsx3 c2 hstr hg
  generalize hL : headL (k, a, s.data.toList) ++ s.data.toList = L at *
  have HL := Lib.hid hL
  have hpl : (putL (sAll 0 L)).length ≤ 4 := Nat.le_refl 4
  clear hL
  unfold maxLen at hm
  go_wp2_with fail
  refine (of_list L _ hll).mono ?_; rintro e w' ⟨rfl, rfl⟩
  go_wp2_with fail
  refine (put_b _ _ (sAll_0 _)).mono ?_; rintro e w5 ⟨rfl, hb5⟩
  go_wp2_with fail
  go_ret2
  exact ⟨by rw [HL.out, h]; rfl, hb4.trans (hb5.mono hb4.size)⟩

theorem put_it (k a : Int) (s : ByteArray) (w : World) : Calls Try.prog 27 #[itV k a s] w fun e w' => PutPost k a s w e w' := by
  by_cases h : chk k a s.size = 0
  · exact put_yes_ k a s w h
  · exact put_no_ k a s w h

set_option maxHeartbeats 1000000 in
theorem rput_no_ (k a : Int) (s : ByteArray) (w : World) (h : chk k a s.size ≠ 0) :
    Calls Try.prog 28 #[itV k a s] w fun e w' => PutPost k a s w e w' := by
  unfold PutPost itV putC
  rw [putB_no h]
  have hb := (Below.refl w.heap.size w).alloc (Nat.le_refl _) (.cells #[.int .i64 k, .int .i64 a, .string s] 36)
  have hc : (chk k a s.size != 0) = true := by simpa using h
  go_enter Try.func28, Try.ntmps28
  go_wp2_with fail
  refine (rcheck_any k a s _).mono ?_; rintro e w1 ⟨rfl, hb1⟩
  go_wp2_with fail
  go_ret2
  exact ⟨rfl, hb.trans (hb1.mono (by simp))⟩

theorem one_str (W : World) (x : Int) (h0 : 0 ≤ x) (h1 : x ≤ 255) : (convert 29 9 (.slice (some ⟨W.heap.size, 0, none⟩) 1 1)).run Try.prog (W.alloc (.cells #[.int .u8 x] 5)) = .ok (.string ⟨#[UInt8.ofNat x.toNat]⟩) (W.alloc (.cells #[.int .u8 x] 5)) := by
  refine str_of _ _ 1 1 [UInt8.ofNat x.toNat] rfl (fun j hj => ?_)
  have : j = 0 := by simpa using hj
  subst this
  rw [(Whole.new W 5 _).cell 0]
  show some (Value.int .u8 x) = some (Value.int .u8 ((UInt8.ofNat x.toNat).toNat : Int))
  rw [u8_of x h0 h1]
theorem two_str (W : World) (b : Nat) (hb : W.heap.size = b) (x y : Int) (h0 : 0 ≤ x) (h1 : x ≤ 255) (h2 : 0 ≤ y) (h3 : y ≤ 255) : (convert 29 9 (.slice (some ⟨b, 0, none⟩) 2 2)).run Try.prog (W.alloc (.cells #[.int .u8 x, .int .u8 y] 5)) = .ok (.string ⟨#[UInt8.ofNat x.toNat, UInt8.ofNat y.toNat]⟩) (W.alloc (.cells #[.int .u8 x, .int .u8 y] 5)) := by
  subst hb
  refine str_of _ _ 2 2 [UInt8.ofNat x.toNat, UInt8.ofNat y.toNat] rfl (fun j hj => ?_)
  rw [(Whole.new W 5 _).cell j]
  have hj2 : j < 2 := by simpa using hj
  rcases (by omega : j = 0 ∨ j = 1) with rfl | rfl
  · show some (Value.int .u8 x) = some (Value.int .u8 ((UInt8.ofNat x.toNat).toNat : Int)); rw [u8_of x h0 h1]
  · show some (Value.int .u8 y) = some (Value.int .u8 ((UInt8.ofNat y.toNat).toNat : Int)); rw [u8_of y h2 h3]

theorem ref_str (k a : Int) (s : ByteArray) (h1 : 1 ≤ k) (h2 : k ≤ 15) (hs : s.size ≤ 4096) :
    (⟨#[87]⟩ : ByteArray) ++ ⟨#[UInt8.ofNat k.toNat]⟩ ++ ⟨(be 6 a).toArray⟩ ++ ⟨#[UInt8.ofNat (s.size / 256), UInt8.ofNat (s.size % 256)]⟩ ++ s = ⟨(headL (k, a, s.data.toList) ++ s.data.toList).toArray⟩ := by
  have eb : be 2 (s.size : Int) = [UInt8.ofNat (s.size / 256), UInt8.ofNat (s.size % 256)] := by
    show [UInt8.ofNat ((s.size : Int) / 256 % 256).toNat, UInt8.ofNat ((s.size : Int) % 256).toNat] = _
    rw [show ((s.size : Int) / 256 % 256).toNat = s.size / 256 from by omega, show ((s.size : Int) % 256).toNat = s.size % 256 from by omega]
  have ek : k % 256 = k := by omega
  apply ByteArray.ext
  simp [ByteArray.data_append, headL, eb, ek]

set_option maxHeartbeats 1000000 in
theorem rput_yes_ (k a : Int) (s : ByteArray) (w : World) (h : chk k a s.size = 0) :
    Calls Try.prog 28 #[itV k a s] w fun e w' => PutPost k a s w e w' := by
  obtain ⟨k1, k2, a1, a2, s1⟩ := chk_zero h
  unfold PutPost itV putC
  rw [putB_yes h]
  have hb := (Below.refl w.heap.size w).alloc (Nat.le_refl _) (.cells #[.int .i64 k, .int .i64 a, .string s] 36)
  go_enter Try.func28, Try.ntmps28
  go_wp2_with fail
  refine (rcheck_any k a s _).mono ?_; rintro e w1 ⟨rfl, hb1⟩
  rw [h]
  have hbox : Whole w1 w.heap.size 36 #[.int .i64 k, .int .i64 a, .string s] := (Whole.new w 36 _).below hb1 (by simp)
  have hbb := hb.trans (hb1.mono (by simp))
  have hsz : w.heap.size + 1 ≤ w1.heap.size := by have := hb1.size; simpa using this
  have d1 := hbox.cell 1
  simp only [List.getElem?_toArray, List.getElem?_cons_zero, List.getElem?_cons_succ] at d1
  clear hb hb1
  go_wp2_with fail
  go_loopw [5, 6, 7] (fun t n i wr => ∃ j : Nat, j ≤ 6 ∧ i = .int .i64 j ∧ t = .string ⟨(be j a).toArray⟩ ∧ n = .int .i64 (a / 256 ^ j) ∧ Below w1.heap.size w1 wr) (fun _ _ i _ => 6 - (intOf i).toNat)
  case atStart => exact ⟨0, by omega, rfl, rfl, by simp, Below.refl _ _⟩
  case round =>
    clear d1
    obtain ⟨j, hj, rfl, rfl, rfl, hb⟩ := hrel
    by_cases hlt : j < 6
    · have hx0 : 0 ≤ a / 256 ^ j := Int.ediv_nonneg a1 (Int.pow_nonneg (by decide))
      have hx1 : a / 256 ^ j ≤ 1099511627776 := Int.le_trans (Int.ediv_le_self _ a1) a2
      have HS : Hid ((⟨#[UInt8.ofNat (a / 256 ^ j % 256).toNat]⟩ : ByteArray) ++ ⟨(be j a).toArray⟩ = ⟨(be (j + 1) a).toArray⟩) := by
        unfold Hid; rw [be_cons]
        exact ba_app [UInt8.ofNat (a / 256 ^ j % 256).toNat] (be j a)
      have HD : Hid (a / 256 ^ j / 256 = a / 256 ^ (j + 1)) := by unfold Hid; rw [Int.ediv_ediv_of_nonneg (Int.pow_nonneg (by decide)), Int.pow_succ]
      have hle : (be j a).length ≤ 6 := by rw [be_len]; omega
      have hcv := one_str wr (a / 256 ^ j % 256) (by omega) (by omega)
      generalize a / 256 ^ j = x at *
      generalize be j a = B at *
      go_wp2_with fail
      exact ⟨⟨j + 1, by omega, by go_num, by rw [HS.out], by rw [HD.out], hb.alloc hb.size _⟩, by simp [intOf] <;> omega⟩
    · have ej : j = 6 := by omega
      subst ej
      have hx2 := hbox.below hb (by omega)
      have hbx2 := hbb.trans (hb.mono (by omega))
      have hsx2 := Nat.le_trans hsz hb.size
      have hle : (be 6 a).length ≤ 6 := by rw [be_len]; omega
      have hcv := one_str wr k (by omega) (by omega)
      have hcv2 := two_str (wr.alloc (.cells #[.int .u8 k] 5)) (wr.heap.size + 1) (by simp) ((s.size : Int) / 256) ((s.size : Int) % 256) (by omega) (by omega) (by omega) (by omega)
      have d0 := hx2.cell 0
      have d2 := hx2.cell 2
      have d2' := (hx2.alloc (.cells #[.int .u8 k] 5)).cell 2
      have d2'' := ((hx2.alloc (.cells #[.int .u8 k] 5)).alloc (.cells #[.int .u8 ((s.size : Int) / 256), .int .u8 ((s.size : Int) % 256)] 5)).cell 2
      simp only [List.getElem?_toArray, List.getElem?_cons_zero, List.getElem?_cons_succ] at d0 d2 d2' d2''
      clear hx2
      go_wp2_with fail
      have he := ref_str k a s k1 k2 s1
      generalize hL : headL (k, a, s.data.toList) ++ s.data.toList = L at *
      have hll : L.length ≤ 5000 := by rw [← hL]; simp [headL_len]; omega
      have hml : L.length ≤ maxLen := by unfold maxLen; omega
      have HL := Lib.hid hL
      have hpl : (putL (sAll 0 L)).length ≤ 4 := Nat.le_refl 4
      rw [he]
      have hb5 := (hbx2.alloc (by omega) (.cells #[.int .u8 k] 5)).alloc (by simp; omega) (.cells #[.int .u8 ((s.size : Int) / 256), .int .u8 ((s.size : Int) % 256)] 5)
      clear hL he hcv hcv2 d0 d2 d2' d2'' hle
      generalize (wr.alloc (.cells #[.int .u8 k] 5)).alloc (.cells #[.int .u8 ((s.size : Int) / 256), .int .u8 ((s.size : Int) % 256)] 5) = w5 at *
      refine (rof_list L _ hml).mono ?_; rintro e w' ⟨rfl, rfl⟩
      go_wp2_with fail
      refine (rput_any _ _ (sAll_0 _)).mono ?_; rintro e w6 ⟨rfl, o, rfl⟩
      go_wp2_with fail
      go_ret2
      exact ⟨by rw [HL.out, h]; rfl, hb5.alloc hb5.size _⟩

theorem rput_it (k a : Int) (s : ByteArray) (w : World) : Calls Try.prog 28 #[itV k a s] w fun e w' => PutPost k a s w e w' := by
  by_cases h : chk k a s.size = 0
  · exact rput_yes_ k a s w h
  · exact rput_no_ k a s w h

end Go.Proofs.Ytgoeabkoljabkaa
