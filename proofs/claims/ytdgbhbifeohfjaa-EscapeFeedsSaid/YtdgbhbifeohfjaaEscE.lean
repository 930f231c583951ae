/- The walks of Same, Data and Join. -/
import Derived.Test.YtdgbhbifeohfjaaEscD
namespace Go.Proofs.Ytdgbhbifeohfjaa
open Go.RowKit

def Pc.kbyte : Pc → UInt8
  | .data _ => 0
  | .press c => c
theorem cells_form (p : Pc) : p.cells = [.string ⟨p.bytes.toArray⟩, .int .u8 (p.kbyte.toNat : Int), .bool p.isKey] := by cases p <;> rfl
theorem pcsV_cons (p : Pc) (o : List Pc) : pcsV (p :: o) = p.cells ++ pcsV o := by simp [pcsV]
theorem pcsV_at : ∀ (o : List Pc) (k : Nat) (h : k < o.length), (pcsV o)[k * 3]? = some (.string ⟨o[k].bytes.toArray⟩) ∧ (pcsV o)[k * 3 + 1]? = some (.int .u8 (o[k].kbyte.toNat : Int)) ∧ (pcsV o)[k * 3 + 2]? = some (.bool o[k].isKey)
  | p :: o, 0, _ => by
    rw [pcsV_cons, cells_form]
    exact ⟨rfl, rfl, rfl⟩
  | p :: o, k + 1, h => by
    have ih := pcsV_at o k (by simpa using h)
    rw [pcsV_cons]
    have e : ∀ i, (p.cells ++ pcsV o)[(k + 1) * 3 + i]? = (pcsV o)[k * 3 + i]? := fun i => by
      rw [List.getElem?_append_right (by rw [cells_len]; omega), cells_len]
      congr 1; omega
    have e0 := e 0
    simp only [Nat.add_zero] at e0
    rw [e0, e 1, e 2]
    exact ih

/-- A slice that reads as these pieces. -/
def RdP (w : World) (A : Option Addr) (o : List Pc) : Prop :=
  ∀ j, j < o.length → ∃ g b, A = some ⟨g, b, none⟩ ∧ g < w.heap.size ∧ ∀ i, i < o.length * 3 → w.cell? ⟨g, b + i, none⟩ = (pcsV o)[i]?
theorem rdp_of {w : World} {base n : Nat} {v : Value} {o : List Pc} (hn : o.length = n) (h : w.ownsRow base 58 3 v n (pcsV o)) : ∃ A ca, v = .slice A n ca ∧ n ≤ maxLen ∧ n ≤ ca ∧ RdP w A o := by
  subst hn
  obtain ⟨A, ca, rfl, hm, hc, _, ha⟩ := own_form h
  refine ⟨A, ca, rfl, hm, hc, fun j hj => ?_⟩
  obtain ⟨g, rfl, _, hg, hcs⟩ := ha j hj (by omega)
  exact ⟨g, 0, rfl, hg, fun i hi => by rw [Nat.zero_add]; exact hcs i hi⟩
theorem rdp_below {w w' : World} {A : Option Addr} {o : List Pc} (h : RdP w A o) (hb : Below w.heap.size w w') : RdP w' A o := fun j hj => by
  obtain ⟨g, b, rfl, hg, hc⟩ := h j hj
  exact ⟨g, b, rfl, Nat.lt_of_lt_of_le hg hb.size, fun i hi => (hb.cell (p := ⟨g, b + i, none⟩) hg).trans (hc i hi)⟩

set_option maxHeartbeats 1000000 in
theorem sameP_rd (A B : Option Addr) (n ca cb : Nat) (o : List Pc) (w : World) (hn : o.length = n) (hm : n ≤ maxLen) (h1 : RdP w A o) (h2 : RdP w B o) :
    Calls Try.prog 28 #[.slice A n ca, .slice B n cb] w fun e w' => e = .returned (.bool true) ∧ Below w.heap.size w w' := by
  subst hn
  have HA := Lib.hid h1
  have HB := Lib.hid h2
  clear h1 h2
  unfold maxLen at hm
  have hne : ((o.length : Int) != (o.length : Int)) = false := by simp
  go_enter Try.func28, Try.ntmps28
  go_wp2
  go_loopw [5] (fun i wr => ∃ k : Nat, k ≤ o.length ∧ i = .int .i64 k ∧ ∃ n, wr = w.drewN n) (fun i _ => o.length - (intOf i).toNat)
  case atStart => exact ⟨0, by omega, rfl, 0, rfl⟩
  case round =>
    obtain ⟨k, hk, rfl, n, rfl⟩ := hrel
    by_cases hlt : k < o.length
    · obtain ⟨g1, o1, rfl, _, c1⟩ := HA.out k hlt
      obtain ⟨g2, o2, rfl, _, c2⟩ := HB.out k hlt
      obtain ⟨l1, l2, l3⟩ := pcsV_at o k hlt
      have d1 := (c1 (k * 3) (by omega)).trans l1
      have d2 := (c2 (k * 3) (by omega)).trans l1
      have d3 := (c1 (k * 3 + 1) (by omega)).trans l2
      have d4 := (c2 (k * 3 + 1) (by omega)).trans l2
      have d5 := (c1 (k * 3 + 2) (by omega)).trans l3
      have d6 := (c2 (k * 3 + 2) (by omega)).trans l3
      rw [← Nat.add_assoc] at d3 d4 d5 d6
      clear c1 c2 HA HB l1 l2 l3
      generalize o[k] = p at *
      generalize p.bytes.toArray = P1 at *
      generalize p.kbyte = P2 at *
      generalize p.isKey = P3 at *
      have g0 : (0 : Int) ≤ (k : Int) := by omega
      have g3 : (k : Int) < (o.length : Int) := by omega
      go_wp2
      go_quiet (fail)
      go_wp2
      exact ⟨⟨k + 1, by omega, by go_num, _, rfl⟩, by simp [intOf]; omega⟩
    · go_wp2
      go_ret
      exact ⟨rfl, drawnN (Below.refl _ _) n⟩

theorem sameP (b1 b2 n : Nat) (v1 v2 : Value) (o : List Pc) (w : World) (hn : o.length = n) (h1 : w.ownsRow b1 58 3 v1 n (pcsV o)) (h2 : w.ownsRow b2 58 3 v2 n (pcsV o)) :
    Calls Try.prog 28 #[v1, v2] w fun e w' => e = .returned (.bool true) ∧ Below w.heap.size w w' := by
  obtain ⟨A, ca, rfl, hm, _, ha⟩ := rdp_of hn h1
  obtain ⟨B, cb, rfl, _, _, hb⟩ := rdp_of hn h2
  exact sameP_rd A B n ca cb o w hn hm ha hb

theorem dataOf_append (a b : List Pc) : dataOf (a ++ b) = dataOf a ++ dataOf b := by simp [dataOf]
theorem take_snocP (o : List Pc) (k : Nat) (h : k < o.length) : o.take (k + 1) = o.take k ++ [o[k]] := List.take_succ_eq_append_getElem h

set_option maxHeartbeats 1000000 in
theorem dataP (base n : Nat) (v : Value) (o : List Pc) (w : World) (hn : o.length = n) (hle : (dataOf o).length ≤ 100000) (h : w.ownsRow base 58 3 v n (pcsV o)) :
    Calls Try.prog 33 #[v] w fun e w' => e = .returned (.string ⟨(dataOf o).toArray⟩) ∧ w = w' := by
  obtain ⟨A, ca, rfl, hm, _, ha⟩ := rdp_of hn h
  subst hn
  have HA := Lib.hid ha
  clear ha h
  unfold maxLen at hm
  go_enter Try.func33, Try.ntmps33
  go_wp2
  go_loop [3, 4] (fun s i => ∃ (k : Nat) (S : ByteArray), k ≤ o.length ∧ i = .int .i64 k ∧ s = .string S ∧ S = ⟨(dataOf (o.take k)).toArray⟩) (fun _ i => o.length - (intOf i).toNat)
  case atStart => exact ⟨0, _, by omega, rfl, rfl, rfl⟩
  case round =>
    obtain ⟨k, S, hk, rfl, rfl, hS⟩ := hrel
    have HS := Lib.hid hS
    clear hS
    by_cases hlt : k < o.length
    · obtain ⟨g1, o1, rfl, _, c1⟩ := HA.out k hlt
      have d1 := (c1 (k * 3) (by omega)).trans (pcsV_at o k hlt).1
      have HS1 : Hid (S ++ ⟨o[k].bytes.toArray⟩ = (⟨(dataOf (o.take (k + 1))).toArray⟩ : ByteArray)) := by
        unfold Hid
        rw [HS.out, ba_app, take_snocP o k hlt, dataOf_append]
        simp [dataOf]
      have hsz : S.size + (⟨o[k].bytes.toArray⟩ : ByteArray).size ≤ 100000 := by
        rw [← ByteArray.size_append, HS1.out]
        have : (dataOf (o.take (k + 1))).length ≤ (dataOf o).length := by
          conv => rhs; rw [← List.take_append_drop (k + 1) o, dataOf_append, List.length_append]
          omega
        simp [ByteArray.size]; omega
      clear c1 HA
      generalize (⟨o[k].bytes.toArray⟩ : ByteArray) = T at *
      have g0 : (0 : Int) ≤ (k : Int) := by omega
      have g3 : (k : Int) < (o.length : Int) := by omega
      go_wp2
      exact ⟨⟨k + 1, _, by omega, by go_num, rfl, HS1.out⟩, by simp [intOf]; omega⟩
    · have ek : k = o.length := by omega
      subst ek
      go_wp2
      go_ret
      exact ⟨by rw [HS.out, List.take_length]; rfl, rfl⟩

theorem dataOf_jn (o : List Pc) (p : Pc) : dataOf (jn o p) = dataOf o ++ p.bytes := by
  unfold jn
  split
  · rename_i a b h
    have : o = o.dropLast ++ [.data a] := by
      have hne : o ≠ [] := by intro e; subst e; simp at h
      rw [List.getLast?_eq_some_getLast hne] at h
      injection h with h
      rw [← h, List.dropLast_concat_getLast]
    conv => rhs; rw [this]
    simp [dataOf, Pc.bytes]
  · simp [dataOf]
theorem dataOf_joined (ps : List Pc) : dataOf (joined ps) = dataOf ps := by
  have : ∀ (ps o : List Pc), dataOf (ps.foldl jn o) = dataOf o ++ dataOf ps := by
    intro ps
    induction ps with
    | nil => intro o; simp [dataOf]
    | cons p ps ih => intro o; rw [List.foldl_cons, ih, dataOf_jn]; simp [dataOf]
  rw [joined, this]; simp [dataOf]
theorem joined_snoc (ps : List Pc) (p : Pc) : joined (ps ++ [p]) = jn (joined ps) p := by simp [joined]
theorem jn_len (o : List Pc) (p : Pc) : (jn o p).length ≤ o.length + 1 := by
  unfold jn; split <;> simp <;> omega
theorem joined_len : ∀ ps : List Pc, (joined ps).length ≤ ps.length := by
  have : ∀ (ps o : List Pc), (ps.foldl jn o).length ≤ o.length + ps.length := by
    intro ps
    induction ps with
    | nil => intro o; simp
    | cons p ps ih => intro o; have := ih (jn o p); have := jn_len o p; simp only [List.foldl_cons, List.length_cons]; omega
  intro ps; have := this ps []; simpa [joined] using this
theorem jn_key (o : List Pc) (p : Pc) (h : p.isKey = true) : jn o p = o ++ [p] := by
  cases p with
  | data l => cases h
  | press c => exact jn_press o c
theorem jn_lastkey (o : List Pc) (q p : Pc) (h : q.isKey = true) : jn (o ++ [q]) p = o ++ [q] ++ [p] := by
  cases q with
  | data l => cases h
  | press c => exact jn_shut (shut_press o c) p
theorem pcsV_set (o : List Pc) (a b : List UInt8) : (pcsV (o ++ [.data a])).set (o.length * 3) (.string ⟨b.toArray⟩) = pcsV (o ++ [.data b]) := by
  rw [pcsV_append, pcsV_append, ← pcsV_length, List.set_append_right _ _ (Nat.le_refl _), Nat.sub_self]
  rfl

theorem push_fin {w2 : World} {b : Nat} {v' : Value} {J : List Pc} {p : Pc} (h : w2.ownsRow b 58 3 v' (J.length + 1) (pcsV J ++ p.cells)) : w2.ownsRow b 58 3 v' (J ++ [p]).length (pcsV (J ++ [p])) := by
  rw [List.length_append, pcsV_append, pcsV_one]; exact h

def JoinPost (o : List Pc) (w : World) (e : Ending) (w' : World) : Prop := ∃ v, e = .returned v ∧ w'.ownsRow w.heap.size 58 3 v (joined o).length (pcsV (joined o)) ∧ Below w.heap.size w w'

set_option maxRecDepth 100000 in
set_option maxHeartbeats 4000000 in
theorem joinP (base n : Nat) (v : Value) (o : List Pc) (w : World) (hn : o.length = n) (hle : (dataOf o).length ≤ 100000) (hlen : o.length ≤ 100000) (h : w.ownsRow base 58 3 v n (pcsV o)) :
    Calls Try.prog 29 #[v] w (JoinPost o w) := by
  obtain ⟨A, ca, rfl, hm, _, ha⟩ := rdp_of hn h
  subst hn
  have HA := Lib.hid ha
  clear ha h
  obtain ⟨i8, hi8, hz8, hs8, hb8⟩ := info_parts Try.info58
  go_enter Try.func29, Try.ntmps29
  go_wp2
  go_loopw [3, 4, 5] (fun out i _ wr => ∃ k : Nat, k ≤ o.length ∧ i = .int .i64 k ∧ wr.ownsRow w.heap.size 58 3 out (joined (o.take k)).length (pcsV (joined (o.take k))) ∧ Below w.heap.size w wr) (fun _ i _ _ => o.length - (intOf i).toNat)
  case atStart => exact ⟨0, by omega, rfl, World.ownsRow_nil _ _ _ _, Below.refl _ _⟩
  case round =>
    obtain ⟨k, hk, rfl, hown, hb⟩ := hrel
    by_cases hlt : k < o.length
    · obtain ⟨g1, o1, rfl, hg1, c1⟩ := HA.out k hlt
      obtain ⟨l1, l2, l3⟩ := pcsV_at o k hlt
      have d1 := ((hb.cell (p := ⟨g1, o1 + k * 3, none⟩) hg1).trans (c1 (k * 3) (by omega))).trans l1
      have d2 := ((hb.cell (p := ⟨g1, o1 + (k * 3 + 1), none⟩) hg1).trans (c1 (k * 3 + 1) (by omega))).trans l2
      have d3 := ((hb.cell (p := ⟨g1, o1 + (k * 3 + 2), none⟩) hg1).trans (c1 (k * 3 + 2) (by omega))).trans l3
      rw [← Nat.add_assoc] at d2 d3
      have HJ := Lib.hid (show joined (o.take (k + 1)) = _ by rw [take_snocP o k hlt, joined_snoc])
      have hjl : (joined (o.take k)).length ≤ 100000 := by have := joined_len (o.take k); rw [List.length_take] at this; omega
      have hdl : (dataOf (joined (o.take k))).length + o[k].bytes.length ≤ 100000 := by
        have : (dataOf (o.take (k + 1))).length ≤ (dataOf o).length := by
          conv => rhs; rw [← List.take_append_drop (k + 1) o, dataOf_append, List.length_append]
          omega
        rw [take_snocP o k hlt, dataOf_append, List.length_append, show dataOf [o[k]] = o[k].bytes by simp [dataOf]] at this
        rw [dataOf_joined]
        omega
      clear c1 l1 l2 l3
      generalize joined (o.take k) = J at *
      generalize o[k] = p at *
      have g0 : (0 : Int) ≤ (k : Int) := by omega
      have g3 : (k : Int) < (o.length : Int) := by omega
      by_cases hJ : J = []
      · subst hJ
        have HJ2 : Hid (joined (o.take (k + 1)) = [] ++ [p]) := by unfold Hid; rw [HJ.out, jn_shut shut_nil]
        obtain ⟨A', cap', rfl, _⟩ := own_form hown
        have hcf := cells_form p
        generalize hP1 : p.bytes = P1 at *
        generalize hP2 : p.kbyte = P2 at *
        generalize hP3 : p.isKey = P3 at *
        simp only [List.length_nil] at hown hjl
        go_wp2_with (at_builtin; refine wpList_append_own _ rfl _ _ 50 rfl w.heap.size 58 i8 (.agg #[.string ⟨#[]⟩, .int .u8 0, .bool false]) 3 24 Try.underlying50 hi8 hz8 hs8 hb8 rfl (by decide) _ _ _ rfl (hown.alloc _) ⟨_, 0, none⟩ 1 1 p.cells rfl (cells_len p) ?a1 (cells_one p) ?a3 ?a4 ?a5 ?_)
        case a1 => rw [hcf]; exact World.news_of_block (heap_alloc_new wr _)
        case a3 => unfold maxLen; omega
        case a4 => omega
        case a5 => have := hb.size; simp; omega
        intro v2 w2 hown2 hgrow2 _
        rw [← hcf] at hown2
        have hb2 : Below w.heap.size w w2 := (hb.alloc hb.size _).grown hgrow2 (by have := hb.size; simp; omega) (own_grown_ge hown)
        have hown3 := push_fin (J := []) hown2
        clear hown hown2 hgrow2 hb
        go_wp2
        exact ⟨⟨k + 1, by omega, by go_num, by rw [HJ2.out]; exact hown3, hb2⟩, by simp [intOf]; omega⟩
      · obtain ⟨I, q, rfl⟩ : ∃ I q, J = I ++ [q] := by
          rcases List.eq_nil_or_concat J with h | ⟨I, q, h⟩
          · exact absurd h hJ
          · exact ⟨I, q, by rw [h, List.concat_eq_append]⟩
        clear hJ
        have hlI : (I ++ [q]).length = I.length + 1 := by simp
        obtain ⟨m1, m2, m3⟩ := pcsV_at (I ++ [q]) I.length (by simp)
        rw [List.getElem_concat_length rfl] at m1 m2 m3
        rw [hlI] at hown hjl
        obtain ⟨g, cap', rfl⟩ := ownsRow_succ hown
        have e1 := (hown.cellAt (I.length * 3) (by omega)).trans m1
        have e3 := (hown.cellAt (I.length * 3 + 2) (by omega)).trans m3
        have hfz := hown.frozenAt (I.length * 3)
        have hw1 : IntKind.i64.wrap (I.length : Int) = (I.length : Int) := IntWalk.i64_in _ (by omega)
        have q0 : (0 : Int) ≤ (I.length : Int) := by omega
        have q3 : (I.length : Int) < ((I.length + 1 : Nat) : Int) := by omega
        have q4 : (I.length : Int) < (I.length : Int) + 1 := by omega
        clear m1 m2 m3
        by_cases hpk : p.isKey = true
        · have HJ2 : Hid (joined (o.take (k + 1)) = I ++ [q] ++ [p]) := by unfold Hid; rw [HJ.out, jn_key _ _ hpk]
          have hcf := cells_form p
          rw [hpk] at d3 hcf
          generalize hP1 : p.bytes = P1 at *
          generalize hP2 : p.kbyte = P2 at *
          go_wp2_with (at_builtin; refine wpList_append_own _ rfl _ _ 50 rfl w.heap.size 58 i8 (.agg #[.string ⟨#[]⟩, .int .u8 0, .bool false]) 3 24 Try.underlying50 hi8 hz8 hs8 hb8 rfl (by decide) _ _ _ rfl (hown.alloc _) ⟨_, 0, none⟩ 1 1 p.cells rfl (cells_len p) ?b1 (cells_one p) ?b3 ?b4 ?b5 ?_)
          case b1 => rw [hcf]; exact World.news_of_block (heap_alloc_new wr _)
          case b3 => unfold maxLen; omega
          case b4 => omega
          case b5 => have := hb.size; simp; omega
          intro v2 w2 hown2 hgrow2 _
          rw [← hcf] at hown2
          rw [← hlI] at hown2
          have hb2 : Below w.heap.size w w2 := (hb.alloc hb.size _).grown hgrow2 (by have := hb.size; simp; omega) (own_grown_ge hown)
          have hown3 := push_fin (J := I ++ [q]) hown2
          clear hown hown2 hgrow2 hb
          go_wp2
          exact ⟨⟨k + 1, by omega, by go_num, by rw [HJ2.out]; exact hown3, hb2⟩, by simp [intOf]; omega⟩
        · have hpk' : p.isKey = false := by simpa using hpk
          clear hpk
          have hcf := cells_form p
          rw [hpk'] at d3 hcf
          by_cases hqk : q.isKey = true
          · have HJ2 : Hid (joined (o.take (k + 1)) = I ++ [q] ++ [p]) := by unfold Hid; rw [HJ.out, jn_lastkey _ _ _ hqk]
            rw [hqk] at e3
            generalize hP1 : p.bytes = P1 at *
            generalize hP2 : p.kbyte = P2 at *
            go_wp2_with (at_builtin; refine wpList_append_own _ rfl _ _ 50 rfl w.heap.size 58 i8 (.agg #[.string ⟨#[]⟩, .int .u8 0, .bool false]) 3 24 Try.underlying50 hi8 hz8 hs8 hb8 rfl (by decide) _ _ _ rfl (hown.alloc _) ⟨_, 0, none⟩ 1 1 p.cells rfl (cells_len p) ?c1 (cells_one p) ?c3 ?c4 ?c5 ?_)
            case c1 => rw [hcf]; exact World.news_of_block (heap_alloc_new wr _)
            case c3 => unfold maxLen; omega
            case c4 => omega
            case c5 => have := hb.size; simp; omega
            intro v2 w2 hown2 hgrow2 _
            rw [← hcf] at hown2
            rw [← hlI] at hown2
            have hb2 : Below w.heap.size w w2 := (hb.alloc hb.size _).grown hgrow2 (by have := hb.size; simp; omega) (own_grown_ge hown)
            have hown3 := push_fin (J := I ++ [q]) hown2
            clear hown hown2 hgrow2 hb
            go_wp2
            exact ⟨⟨k + 1, by omega, by go_num, by rw [HJ2.out]; exact hown3, hb2⟩, by simp [intOf]; omega⟩
          · have hqk' : q.isKey = false := by simpa using hqk
            clear hqk
            obtain ⟨a, rfl⟩ : ∃ a, q = .data a := by cases q <;> first | exact ⟨_, rfl⟩ | cases hqk'
            obtain ⟨b, rfl⟩ : ∃ b, p = .data b := by cases p <;> first | exact ⟨_, rfl⟩ | cases hpk'
            have HJ2 : Hid (joined (o.take (k + 1)) = I ++ [.data (a ++ b)]) := by unfold Hid; rw [HJ.out, jn_data]
            have hst := hown.stored (I.length * 3) (.string ⟨(a ++ b).toArray⟩)
            rw [pcsV_set] at hst
            simp only [Pc.bytes, Pc.isKey] at d1 d3 e1 e3
            have hab : a.length + b.length ≤ 100000 := by
              rw [dataOf_append, List.length_append, show dataOf [Pc.data a] = a by simp [dataOf, Pc.bytes], show (Pc.data b).bytes = b from rfl] at hdl
              omega
            have hcat : (⟨a.toArray⟩ : ByteArray) ++ ⟨b.toArray⟩ = ⟨(a ++ b).toArray⟩ := ba_app a b
            have hsz1 : (⟨a.toArray⟩ : ByteArray).size = a.length := by simp [ByteArray.size]
            have hsz2 : (⟨b.toArray⟩ : ByteArray).size = b.length := by simp [ByteArray.size]
            have hsm : ¬ 9223372036854775807 < (⟨a.toArray⟩ : ByteArray).size + (⟨b.toArray⟩ : ByteArray).size := by rw [hsz1, hsz2]; omega
            have dd1 : wr.drew.cell? ⟨g1, o1 + k * 3, none⟩ = some (.string ⟨b.toArray⟩) := d1
            have ee1 : wr.drew.cell? ⟨g, I.length * 3, none⟩ = some (.string ⟨a.toArray⟩) := e1
            have ff1 : wr.drew.frozen? ⟨g, I.length * 3, none⟩ = false := hfz
            clear hcf
            go_wp2
            go_region
            go_wp2
            refine ⟨⟨k + 1, by omega, by go_num, ?_, ?_⟩, by simp [intOf]; omega⟩
            · rw [HJ2.out, show (I ++ [Pc.data (a ++ b)]).length = I.length + 1 by simp]; exact hst.1
            · exact (hb.setCell (p := ⟨g, I.length * 3, none⟩) (own_grown_ge hown g rfl) _).drew
    · have ek : k = o.length := by omega
      subst ek
      rw [List.take_length] at hown
      obtain ⟨A', cap', rfl, _⟩ := own_form hown
      go_wp2
      go_ret
      exact ⟨_, rfl, hown, hb⟩

end Go.Proofs.Ytdgbhbifeohfjaa
