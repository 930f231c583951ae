/- Rows of pieces; append that tells where the row lies; the walk of Feed's inner function. -/
import Derived.Test.YtdgbhbifeohfjaaEscB
import Derived.Lib.AppendStr
namespace Go.Proofs.Ytdgbhbifeohfjaa
open Go.RowKit

def Pc.cells : Pc → List Value
  | .data l => [.string ⟨l.toArray⟩, .int .u8 0, .bool false]
  | .press c => [.string ⟨#[]⟩, .int .u8 (c.toNat : Int), .bool true]
def pcsV (o : List Pc) : List Value := o.flatMap Pc.cells
theorem pcsV_append (a b : List Pc) : pcsV (a ++ b) = pcsV a ++ pcsV b := by simp [pcsV]
theorem pcsV_one (p : Pc) : pcsV [p] = p.cells := by simp [pcsV]
theorem cells_one (p : Pc) : ∀ u ∈ p.cells, u.oneCell' = true := by
  intro u hu; cases p <;> (simp [Pc.cells] at hu; rcases hu with rfl | rfl | rfl <;> rfl)
theorem cells_len (p : Pc) : p.cells.length = 3 := by cases p <;> rfl
theorem pcsV_length (o : List Pc) : (pcsV o).length = o.length * 3 := by
  induction o with
  | nil => rfl
  | cons p o ih => rw [show p :: o = [p] ++ o from rfl, pcsV_append, List.length_append, ih, pcsV_one, cells_len]; simp; omega

/-- Where the row lies behind an append: where it lay, or in a new block. -/
def Moved (w : World) (v v' : Value) : Prop := v'.ownBlock = v.ownBlock ∨ ∃ i, v'.ownBlock = some i ∧ w.heap.size ≤ i

theorem run_append_dst {P : Program} {w : World} (base : Nat) (t ty e : TypeId) (i : TypeInfo) (z : Value) (size bytes : Nat) (ht : P.underlying t = some (.slice e)) (hi : P.info? e = some i) (hz : i.zero = some z)
    (hsize : i.size = size) (hby : i.bytes = bytes) (hzs : z.cells.size = size) (hsz : 0 < size)
    (v : Value) (n : Nat) (xs : List Value) (hown : w.ownsRow base e size v n xs)
    (a : Addr) (c : Nat) (news : List Value) (hl : news.length = 1 * size) (hnews : ∀ j u, news[j]? = some u → w.cell? (a.add j) = some u) (h1 : ∀ u ∈ news, u.oneCell' = true)
    (h63 : n + 1 ≤ maxLen) (hbytes : (n + 1) * bytes ≤ 140737488355328) (hbase : base ≤ w.heap.size) :
    ∃ v' w', (Builtin.append_ #[t, t] ty #[v, .slice (some a) 1 c]).run P w = .ok v' w' ∧ w'.ownsRow base e size v' (n + 1) (xs ++ news) ∧ w.grownBy w' v.ownBlock ∧ Moved w v v' := by
  obtain ⟨v', w', hr, h2, h3, _⟩ := run_append_own (P := P) w base t ty e i z size bytes ht hi hz hsize hby hzs hsz v n xs hown a 1 c news hl hnews h1 h63 hbytes hbase
  refine ⟨v', w', hr, h2, h3, ?_⟩
  subst hsize hby
  have hsmall : n + 1 ≤ 9223372036854775807 := by simp only [maxLen] at h63; omega
  rcases hown.2 with ⟨rfl, rfl⟩ | ⟨g, cap, cur, rfl, hbg, hg, hnc, hcm, hcs, htake⟩
  · have hr2 := run_append_nil (P := P) w t ty e i z ht hi hz a 1 c news hl hnews (by omega) (by omega) (by have hb := hbytes; simp only [Nat.zero_add] at hb; omega)
    rw [hr] at hr2
    injection hr2 with hv _
    exact .inr ⟨w.heap.size, by rw [hv]; rfl, Nat.le_refl _⟩
  · by_cases hroom : n + 1 ≤ cap
    · have hfit : n * i.size + news.length ≤ cur.size := by rw [hl, hcs, ← Nat.add_mul]; exact Nat.mul_le_mul_right _ hroom
      have hr2 := run_append_room (P := P) w t ty e i ht hi g n cap cur hg a 1 c news hl hnews h1 hroom hfit
      rw [hr] at hr2
      injection hr2 with hv _
      exact .inl (by rw [hv]; rfl)
    · have holds : ∀ j u, xs[j]? = some u → w.cell? ((⟨g, 0, none⟩ : Addr).add j) = some u := hown.cells (g := g) rfl
      have hr2 := run_append_grow (P := P) w t ty e i z ht hi hz ⟨g, 0, none⟩ n cap xs hown.1 holds a 1 c news hl hnews (by omega) (by omega) (growslice_fits (by omega) hbytes)
      rw [hr] at hr2
      injection hr2 with hv _
      exact .inr ⟨w.heap.size, by rw [hv]; rfl, Nat.le_refl _⟩

theorem wpList_append_dst {P : Program} (w : World) {ops : Array Oper} {rest : List Oper} {o : Oper} {a : Act} {Q : Exit → Act → World → Prop} (hgd : o.guard = none) (s x : Operand) (t : TypeId)
    (ho : o.op = .call { callee := .builtin .append, args := #[s, x], argTypes := #[t, t] })
    (base : Nat) (e : TypeId) (i : TypeInfo) (z : Value) (size bytes : Nat) (ht : P.underlying t = some (.slice e)) (hi : P.info? e = some i) (hz : i.zero = some z)
    (hsize : i.size = size) (hby : i.bytes = bytes) (hzs : z.cells.size = size) (hsz : 0 < size)
    (v : Value) (n : Nat) (xs : List Value) (hs : a.eval s = v) (hown : w.ownsRow base e size v n xs)
    (ad : Addr) (c : Nat) (news : List Value) (hx : a.eval x = .slice (some ad) 1 c) (hl : news.length = 1 * size) (hnews : ∀ j u, news[j]? = some u → w.cell? (ad.add j) = some u) (h1 : ∀ u ∈ news, u.oneCell' = true)
    (h63 : n + 1 ≤ maxLen) (hbytes : (n + 1) * bytes ≤ 140737488355328) (hbase : base ≤ w.heap.size)
    (h : ∀ v' w', w'.ownsRow base e size v' (n + 1) (xs ++ news) → w.grownBy w' v.ownBlock → Moved w v v' → wpList P ops Q rest (a.put o.dst v') w') : wpList P ops Q (o :: rest) a w := by
  refine wpList_plain hgd fun K hK => ?_
  obtain ⟨v', w', hr, h2, h3, h4⟩ := run_append_dst (P := P) base t o.type e i z size bytes ht hi hz hsize hby hzs hsz v n xs hown ad c news hl hnews h1 h63 hbytes hbase
  unfold Oper.wp execOp
  simp only [ho, resolve, invoke, builtin, Sem.run_bind, Sem.run_pure, Result.andThen_ok, List.map_toArray, List.map_cons, List.map_nil, hs, hx, hr]
  exact hK _ _ (h v' w' h2 h3 h4)

theorem wpListIn_append_dst {F : Fence} {n' : Nat} {P : Program} (w : World) {ops : Array Oper} {rest : List Oper} {o : Oper} {a : Act} {Q : Exit → Act → World → Prop} (hgd : o.guard = none) (s x : Operand) (t : TypeId)
    (ho : o.op = .call { callee := .builtin .append, args := #[s, x], argTypes := #[t, t] })
    (base : Nat) (e : TypeId) (i : TypeInfo) (z : Value) (size bytes : Nat) (ht : P.underlying t = some (.slice e)) (hi : P.info? e = some i) (hz : i.zero = some z)
    (hsize : i.size = size) (hby : i.bytes = bytes) (hzs : z.cells.size = size) (hsz : 0 < size)
    (v : Value) (n : Nat) (xs : List Value) (hs : a.eval s = v) (hown : w.ownsRow base e size v n xs)
    (ad : Addr) (c : Nat) (news : List Value) (hx : a.eval x = .slice (some ad) 1 c) (hl : news.length = 1 * size) (hnews : ∀ j u, news[j]? = some u → w.cell? (ad.add j) = some u) (h1 : ∀ u ∈ news, u.oneCell' = true)
    (h63 : n + 1 ≤ maxLen) (hbytes : (n + 1) * bytes ≤ 140737488355328) (hbase : base ≤ w.heap.size)
    (h : ∀ v' w', w'.ownsRow base e size v' (n + 1) (xs ++ news) → w.grownBy w' v.ownBlock → Moved w v v' → wpListIn F n' P ops Q rest (a.put o.dst v') w') : wpListIn F n' P ops Q (o :: rest) a w := by
  refine wpListIn_plain hgd fun K hK => ?_
  obtain ⟨v', w', hr, h2, h3, h4⟩ := run_append_dst (P := P) base t o.type e i z size bytes ht hi hz hsize hby hzs hsz v n xs hown ad c news hl hnews h1 h63 hbytes hbase
  unfold Oper.wpIn
  refine ⟨?_, ?_⟩
  · simp [Oper.about, ho, resolve, Target.leads, Sem.run_pure]
  · rw [Oper.semAt_plain F _ _ (by rw [ho]; intro c hc'; cases hc')]
    simp [execOp, ho, resolve, invoke, builtin, hs, hx, hr, Result.andThen]
    exact hK _ _ (h v' w' h2 h3 h4)

theorem wpListIn_append_str {F : Fence} {n' : Nat} {P : Program} (w : World) {ops : Array Oper} {rest : List Oper} {o : Oper} {a : Act} {Q : Exit → Act → World → Prop} (hgd : o.guard = none) (sl x : Operand) (t u : TypeId)
    (ho : o.op = .call { callee := .builtin .append, args := #[sl, x], argTypes := #[t, u] })
    (base : Nat) (e : TypeId) (i : TypeInfo) (ht : P.underlying t = some (.slice e)) (hu : P.underlying u = some .string) (hi : P.info? e = some i) (hz : i.zero = some (.int .u8 0))
    (hsize : i.size = 1) (hby : i.bytes = 1)
    (v : Value) (n : Nat) (xs : List Value) (hs : a.eval sl = v) (hown : w.ownsRow base e 1 v n xs) (s : ByteArray) (hx : a.eval x = .string s)
    (h63 : n + s.size ≤ maxLen) (hbytes : n + s.size ≤ 140737488355328) (hbase : base ≤ w.heap.size)
    (h : ∀ v' w', w'.ownsRow base e 1 v' (n + s.size) (xs ++ Lib.strCells s) → w.grownBy w' v.ownBlock → wpListIn F n' P ops Q rest (a.put o.dst v') w') : wpListIn F n' P ops Q (o :: rest) a w := by
  refine wpListIn_plain hgd fun K hK => ?_
  obtain ⟨v', w', hr, h2, h3, _⟩ := Lib.run_append_own_string (P := P) w base t u o.type e i ht hu hi hz hsize hby v n xs hown s h63 hbytes hbase
  unfold Oper.wpIn
  refine ⟨?_, ?_⟩
  · simp [Oper.about, ho, resolve, Target.leads, Sem.run_pure]
  · rw [Oper.semAt_plain F _ _ (by rw [ho]; intro c hc'; cases hc')]
    simp [execOp, ho, resolve, invoke, builtin, hs, hx, hr, Result.andThen]
    exact hK _ _ (h v' w' h2 h3)

theorem Try.info58 : (Try.prog.info? 58).map (fun i => (i.zero, i.size, i.bytes)) = some (some (.agg #[.string ⟨#[]⟩, .int .u8 0, .bool false]), 3, 24) := by kernel_rfl

/-- What the inner function leaves. -/
def ClosPost (hb ob base : Nat) (o : List Pc) (h : List UInt8) (u : Value) (w : World) (e : Ending) (w' : World) : Prop :=
  (∃ x, e = .returned x) ∧ ∃ v' u', Boxed w' hb 68 v' ∧ Boxed w' ob 50 u' ∧ w'.ownsRow base 5 1 v' 0 [] ∧ w'.ownsRow base 58 3 u' (flush o h).length (pcsV (flush o h)) ∧ Moved w u u' ∧
    Kept w w' (fun i => i = hb ∨ i = ob ∨ u.ownBlock = some i)

set_option maxHeartbeats 1000000 in
theorem clos_any (hb ob base : Nat) (o : List Pc) (h : List UInt8) (v u : Value) (w : World) (hv : Boxed w hb 68 v) (hu : Boxed w ob 50 u) (rv : w.ownsRow base 5 1 v h.length (bytesV h)) (ru : w.ownsRow base 58 3 u o.length (pcsV o))
    (hn : o.length ≤ 100000) (hbase : base ≤ w.heap.size) :
    Calls Try.prog 39 #[.pointer (some ⟨hb, 0, none⟩), .pointer (some ⟨ob, 0, none⟩)] w fun e w' => ClosPost hb ob base o h u w e w' := by
  obtain ⟨i0, hi, hz0, hz1, hz2⟩ := info_parts Try.info58
  have hcv := own_str rv
  have hvc := hv.cell
  have huc := hu.cell
  have huf := hu.frozen
  have hvf := hv.frozen
  have hne : hb ≠ ob := fun e => by
    subst e
    have := (show w.heap[hb]? = _ from hv).symm.trans hu
    simp at this
  obtain ⟨A, cap, rfl, hm, _⟩ := own_form rv
  by_cases h0 : h = []
  · subst h0
    clear hcv
    go_enter Try.func39, Try.ntmps39
    go_wp2
    go_end0
    exact ⟨⟨_, rfl⟩, _, _, hv, hu, rv, by simpa [flush] using ru, .inl rfl, Kept.refl _ _⟩
  · have hlen : 0 < h.length := List.length_pos_iff.2 h0
    have h63 : (0 : Int) < (h.length : Int) := by omega
    have hfl : flush o h = o ++ [.data h] := by unfold flush; rw [if_neg h0]
    clear h0
    go_enter Try.func39, Try.ntmps39
    go_wp2_with (at_builtin; refine wpList_append_dst _ rfl _ _ 50 rfl base 58 i0 (.agg #[.string ⟨#[]⟩, .int .u8 0, .bool false]) 3 24 Try.underlying50 hi hz0 hz1 hz2 rfl (by decide) _ _ _ rfl (ru.alloc _) ⟨_, 0, none⟩ 1 (Pc.cells (.data h)) rfl rfl ?c1 ?c2 ?c3 ?c4 ?c5 ?_)
    case c1 => exact World.news_of_block (cs := #[.string ⟨h.toArray⟩, .int .u8 0, .bool false]) (heap_alloc_new w _)
    case c2 => exact cells_one _
    case c3 => unfold maxLen; omega
    case c4 => omega
    case c5 => simp; omega
    intro u' w1 ru1 hgrow hmv
    obtain ⟨g', cap', rfl⟩ := ownsRow_succ ru1
    have hv1 := (hv.alloc (.cells #[.string ⟨h.toArray⟩, .int .u8 0, .bool false] 58)).kept hgrow (hv.not_row (by decide) ru)
    have hu1 := (hu.alloc (.cells #[.string ⟨h.toArray⟩, .int .u8 0, .bool false] 58)).kept hgrow (hu.not_row (by decide) ru)
    have hk1 : Kept w w1 (fun i => i = hb ∨ i = ob ∨ u.ownBlock = some i) := ((Kept.refl w _).alloc _).grown hgrow (fun i hi _ => .inr (.inr hi))
    have hmv' : Moved w u (.slice (some ⟨g', 0, none⟩) (o.length + 1) cap') := hmv.imp id (fun ⟨i, h1, h2⟩ => ⟨i, h1, by simp at h2; omega⟩)
    have hle : (flush o h).length = o.length + 1 := by rw [hfl]; simp
    have ru2 : w1.ownsRow base 58 3 (.slice (some ⟨g', 0, none⟩) (o.length + 1) cap') (flush o h).length (pcsV (flush o h)) := by rw [hle, hfl, pcsV_append, pcsV_one]; exact ru1
    clear ru1 hle hfl
    have hvc1 := hv1.cell
    have huc1 := hu1.cell
    have huf1 := hu1.frozen
    have hvf1 := hv1.frozen
    clear hcv hvc huc huf hvf hgrow hmv hv hu rv
    go_wp2
    go_end0
    have hu2 := hu1.set (.slice (some ⟨g', 0, none⟩) (o.length + 1) cap')
    have hv2 := hv1.other hne (.slice (some ⟨g', 0, none⟩) (o.length + 1) cap')
    have ru3 := ru2.kept (grownBy_setCell' w1 ob (.slice (some ⟨g', 0, none⟩) (o.length + 1) cap')) (.inr (hu1.not_row (by decide) ru2).symm)
    have ru4 := ru3.kept (grownBy_setCell' _ hb (.slice none 0 0)) (.inr (hv2.not_row (by decide) ru3).symm)
    exact ⟨⟨_, rfl⟩, _, _, hv2.set _, hu2.other hne.symm _, World.ownsRow_nil _ _ _ _, ru4, hmv', (hk1.setCell _ _ (fun _ => .inr (.inl rfl))).setCell _ _ (fun _ => .inl rfl)⟩

end Go.Proofs.Ytdgbhbifeohfjaa
