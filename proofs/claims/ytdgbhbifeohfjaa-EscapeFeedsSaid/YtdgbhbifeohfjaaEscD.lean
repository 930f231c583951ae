/- The walk of Feed. -/
import Derived.Test.YtdgbhbifeohfjaaEscC
import Derived.Laws.EntriesVeiled
namespace Go.Proofs.Ytdgbhbifeohfjaa
open Go.RowKit Go.Shelf
attribute [local go_sem] Oper.semAt_some

theorem own_same {X Y : World} {base : Nat} {e : TypeId} {size : Nat} {v : Value} {n : Nat} {xs : List Value} (h : X.ownsRow base e size v n xs)
    (hs : ∀ k o, base ≤ k → X.heap[k]? = some o → o.isCells = true → Y.heap[k]? = some o) : Y.ownsRow base e size v n xs := by
  obtain ⟨h1, h2⟩ := h
  refine ⟨h1, h2.imp id ?_⟩
  rintro ⟨g, cap, cur, hv, hg, hh, r⟩
  exact ⟨g, cap, cur, hv, hg, hs g _ hg hh rfl, r⟩

abbrev closV (b : Nat) : Value := .func (.func 39) #[] #[.pointer (some ⟨b + 1, 0, none⟩), .pointer (some ⟨b, 0, none⟩)]
/-- Between two rounds of Feed's loop; b: where its own memory begins. -/
structure FeedI (w : World) (b g : Nat) (s : ByteArray) (r : List Pc × List UInt8) (v u : Value) (W : World) : Prop where
  hv : Boxed W (b + 1) 68 v
  hu : Boxed W b 50 u
  hc : Boxed W (b + 1 + 1) 1 (closV b)
  hp : Boxed W (b + 1 + 1 + 1) 61 (.pointer (some ⟨g, 0, none⟩))
  hs : Boxed W (b + 1 + 1 + 1 + 1) 9 (.string s)
  rv : W.ownsRow b 5 1 v r.2.length (bytesV r.2)
  ru : W.ownsRow b 58 3 u r.1.length (pcsV r.1)
  kept : Kept w W (fun i => i = g)

section
variable {w X Y : World} {b g : Nat} {s : ByteArray} {r : List Pc × List UInt8} {v u : Value}
theorem FeedI.same (h : FeedI w b g s r v u X) (hs : ∀ k o, b ≤ k → X.heap[k]? = some o → o.isCells = true → Y.heap[k]? = some o) (hk : Kept w Y (fun i => i = g)) : FeedI w b g s r v u Y :=
  ⟨hs _ _ (by omega) h.hv rfl, hs _ _ (by omega) h.hu rfl, hs _ _ (by omega) h.hc rfl, hs _ _ (by omega) h.hp rfl, hs _ _ (by omega) h.hs rfl, own_same h.rv hs, own_same h.ru hs, hk⟩
theorem FeedI.stir (h : FeedI w b g s r v u X) (hg : g < b) (k : Kept X Y (fun i => i = g)) : FeedI w b g s r v u Y :=
  h.same (fun i o hi ho _ => (k.block i (Array.getElem?_eq_some_iff.1 ho).1 (by omega)).trans ho) (h.kept.trans k (fun _ _ h => h))
theorem FeedI.own (h : FeedI w b g s r v u X) (hb : w.heap.size ≤ b) {row : Option Nat} {B : Nat} (hB : b ≤ B) (hg : X.grownBy Y row) (hr : ∀ i, row = some i → B ≤ i ∧ ∃ o : Obj, X.heap[i]? = some o ∧ o.isCells = false) : FeedI w b g s r v u Y := by
  refine h.same (fun i o _ ho hc => (hg.block i (Array.getElem?_eq_some_iff.1 ho).1 (fun e => ?_)).trans ho) (h.kept.grown hg (fun i hi hl => by have := (hr i hi).1; omega))
  obtain ⟨_, o', ho', hc'⟩ := hr i e.symm
  rw [ho] at ho'; cases ho'; rw [hc] at hc'; cases hc'
end

theorem noncells_keep {X Y : World} {row : Option Nat} {B k : Nat} {o : Obj} (hg : X.grownBy Y row) (hr : ∀ i, row = some i → B ≤ i ∧ ∃ o : Obj, X.heap[i]? = some o ∧ o.isCells = false) (h : X.heap[k]? = some o) (hc : o.isCells = true) : Y.heap[k]? = some o := by
  refine (hg.block k (Array.getElem?_eq_some_iff.1 h).1 (fun e => ?_)).trans h
  obtain ⟨_, o', ho', hc'⟩ := hr k e.symm
  rw [h] at ho'; cases ho'; rw [hc] at hc'; cases hc'
theorem own_cells {X : World} {base : Nat} {e : TypeId} {size : Nat} {v : Value} {n : Nat} {xs : List Value} (h : X.ownsRow base e size v n xs) (i : Nat) (hi : v.ownBlock = some i) : ∀ o, X.heap[i]? = some o → o.isCells = true := by
  intro o ho
  rcases h.2 with ⟨rfl, _⟩ | ⟨g, cap, cur, rfl, _, hh, _⟩
  · simp [Value.ownBlock] at hi
  · obtain rfl : g = i := by simpa [Value.ownBlock] using hi
    rw [hh] at ho; cases ho; rfl
theorem boxed_inj {X : World} {B : Nat} {t : TypeId} {v u : Value} (h : Boxed X B t v) (k : Boxed X B t u) : v = u := by
  have := (show X.heap[B]? = _ from h).symm.trans k
  simpa using this

section
variable {w W W2 : World} {b g : Nat} {s : ByteArray} {r r' : List Pc × List UInt8} {v u v' u' : Value} {S : Nat → Prop}
theorem FeedI.step (h : FeedI w b g s r v u W) (hb : w.heap.size ≤ b) (hgb : g < b) (hk : Kept W W2 S) (hS : ∀ i, S i → i = b ∨ i = b + 1 ∨ u.ownBlock = some i ∨ v.ownBlock = some i)
    (hv' : Boxed W2 (b + 1) 68 v') (hu' : Boxed W2 b 50 u') (rv' : W2.ownsRow b 5 1 v' r'.2.length (bytesV r'.2)) (ru' : W2.ownsRow b 58 3 u' r'.1.length (pcsV r'.1)) :
    FeedI w b g s r' v' u' W2 ∧ KeepIt g (b + 1 + 1 + 1 + 1) (b + 1 + 1 + 1) W W2 ∧ ∀ B, KeepsFrom B W W2 := by
  have hge : ∀ i, S i → b ≤ i := fun i hi => by
    rcases hS i hi with h1 | h1 | h1 | h1
    · omega
    · omega
    · exact (h.ru.lt i h1).1
    · exact (h.rv.lt i h1).1
  have hno : ∀ (j : Nat) (t : TypeId) (x : Value), Boxed W j t x → b + 1 < j → t ≠ 58 → t ≠ 5 → ¬ S j := fun j t x hx hj h58 h5 hi => by
    rcases hS j hi with h1 | h1 | h1 | h1
    · omega
    · omega
    · exact hx.not_row h58 h.ru h1.symm
    · exact hx.not_row h5 h.rv h1.symm
  have hc' := hno _ _ _ h.hc (by omega) (by decide) (by decide)
  have hp' := hno _ _ _ h.hp (by omega) (by decide) (by decide)
  have hs' := hno _ _ _ h.hs (by omega) (by decide) (by decide)
  have hg' : ¬ S g := fun hi => by have := hge g hi; omega
  have hsz : b < W.heap.size := h.hu.lt
  refine ⟨⟨hv', hu', boxed_kept h.hc hk hc', boxed_kept h.hp hk hp', boxed_kept h.hs hk hs', rv', ru', h.kept.trans hk (fun i hi hx => by have := hge i hx; omega)⟩,
    ⟨hk.block g (by omega) hg', hk.block _ h.hs.lt hs', hk.block _ h.hp.lt hp'⟩, fun B => ⟨hk.size, fun k o _ hk' ho => ?_⟩⟩
  refine (hk.block k (Array.getElem?_eq_some_iff.1 hk').1 (fun hi => ?_)).trans hk'
  rcases hS k hi with h1 | h1 | h1 | h1
  · subst h1; rw [show W.heap[k]? = _ from h.hu] at hk'; cases hk'; cases ho
  · subst h1; rw [show W.heap[b + 1]? = _ from h.hv] at hk'; cases hk'; cases ho
  · rw [own_cells h.ru k h1 o hk'] at ho; cases ho
  · rw [own_cells h.rv k h1 o hk'] at ho; cases ho
end

theorem fold_len : ∀ (es : List Ev) (r : List Pc × List UInt8), (es.foldl accE r).1.length ≤ r.1.length + 2 * es.length ∧ (es.foldl accE r).2.length ≤ r.2.length + 2 * es.length
  | [], r => by simp
  | e :: es, r => by
    obtain ⟨h1, h2⟩ := fold_len es (accE r e)
    rw [List.foldl_cons]
    simp only [List.length_cons]
    have h3 : (accE r e).1.length ≤ r.1.length + 2 ∧ (accE r e).2.length ≤ r.2.length + 2 := by
      cases e <;> simp [accE, Ev.emit, flush] <;> (try split) <;> simp
    omega
theorem fold_snoc (es : List Ev) (e : Ev) : (es ++ [e]).foldl accE ([], []) = accE (es.foldl accE ([], [])) e := by simp

theorem emit_le (x : Ev) : x.emit.length ≤ 2 := by cases x <;> simp [Ev.emit]
theorem emit_size (x : Ev) : (⟨x.emit.toArray⟩ : ByteArray).size = x.emit.length := by simp [ByteArray.size]
theorem accE_plain {x : Ev} (h : keyB x = false) (r : List Pc × List UInt8) : accE r x = (r.1, r.2 ++ x.emit) := by cases x <;> first | rfl | cases h
theorem notS {w W : World} {b g : Nat} {s : ByteArray} {r : List Pc × List UInt8} {v u : Value} {Bx : Nat} {cs : Array Value} (hI : FeedI w b g s r v u W) (hX : Whole W Bx 58 cs) (hne : u.ownBlock ≠ some Bx) : ¬ (Bx = b + 1 ∨ Bx = b ∨ u.ownBlock = some Bx) := by
  rintro (h | h | h)
  · subst h
    have := (show W.heap[b + 1]? = _ from hX).symm.trans hI.hv
    simp at this
  · subst h
    have := (show W.heap[Bx]? = _ from hX).symm.trans hI.hu
    simp at this
  · exact hne h

theorem flush_len (o : List Pc) (h : List UInt8) : (flush o h).length ≤ o.length + 1 := by unfold flush; split <;> simp
theorem strCells_bytes (l : List UInt8) : Lib.strCells ⟨l.toArray⟩ = bytesV l := rfl
/-- The end of a round: the bytes are put behind those that are held. -/
theorem tail_any {w W w1 : World} {b g : Nat} {s : ByteArray} {r : List Pc × List UInt8} {v u : Value} {L : List UInt8} {v' : Value} {m : Nat} (hI : FeedI w b g s r v u W) (hb : w.heap.size ≤ b) (hgb : g < b)
    (rv1 : w1.ownsRow b 5 1 v' (r.2.length + m) (bytesV r.2 ++ Lib.strCells ⟨L.toArray⟩)) (hgrow : W.grownBy w1 v.ownBlock) (hm : m = L.length) :
    FeedI w b g s (r.1, r.2 ++ L) v' u (w1.setCell ⟨b + 1, 0, none⟩ v') ∧ KeepIt g (b + 1 + 1 + 1 + 1) (b + 1 + 1 + 1) W (w1.setCell ⟨b + 1, 0, none⟩ v') ∧ ∀ B, KeepsFrom B W (w1.setCell ⟨b + 1, 0, none⟩ v') := by
  subst hm
  have hv1 := hI.hv.kept hgrow (hI.hv.not_row (by decide) hI.rv)
  have hk : Kept W (w1.setCell ⟨b + 1, 0, none⟩ v') (fun i => i = b + 1 ∨ v.ownBlock = some i) := ((Kept.refl W _).grown hgrow (fun i hi _ => .inr hi)).setCell _ _ (fun _ => .inl rfl)
  have hub : ¬ (b = b + 1 ∨ v.ownBlock = some b) := by
    rintro (h | h)
    · omega
    · exact hI.hu.not_row (by decide) hI.rv h.symm
  have rv2 := rv1.kept (grownBy_setCell' w1 (b + 1) v') (.inr (hv1.not_row (by decide) rv1).symm)
  rw [strCells_bytes, ← bytesV_append, ← List.length_append] at rv2
  exact hI.step (r' := (r.1, r.2 ++ L)) hb hgb hk (fun i hi => hi.elim (fun h => .inr (.inl h)) (fun h => .inr (.inr (.inr h)))) (hv1.set v') (boxed_kept hI.hu hk hub) rv2
    (hk.own hI.ru (fun i hi hx => by
      rcases hx with h | h
      · exact hI.hv.not_row (by decide) hI.ru (by rw [← h]; exact hi.symm)
      · exact own_ne_own hI.ru hI.rv (by decide) i hi h))

def FeedPost (g n0 : Nat) (s : ByteArray) (w : World) (e : Ending) (w' : World) : Prop :=
  ∃ v, e = .returned v ∧ w'.ownsRow w.heap.size 58 3 v (fed n0 s.data.toList).length (pcsV (fed n0 s.data.toList)) ∧ Boxed w' g 49 (.int .i64 (last n0 s.data.toList : Int)) ∧ Kept w w' (fun i => i = g)

set_option maxRecDepth 100000 in
set_option maxHeartbeats 4000000 in
theorem feed_any (g n0 : Nat) (s : ByteArray) (w : World) (hn0 : n0 ≤ 2) (hg : Boxed w g 49 (.int .i64 (n0 : Int))) (hsz : s.size ≤ 1000) :
    Calls Try.prog 27 #[.pointer (some ⟨g, 0, none⟩), .string s] w fun e w' => FeedPost g n0 s w e w' := by
  have hmf : ∀ fn first cap w, (Instr.makeFunc fn first cap).run Try.prog w = .ok (.func fn first cap) w := fun _ _ _ _ => rfl
  have hgl := hg.lt
  obtain ⟨i5, hi5, hz5, hs5, hb5⟩ := info_parts Try.info5
  obtain ⟨i8, hi8, hz8, hs8, hb8⟩ := info_parts Try.info58
  refine (callsIn_wide (n := 3)).1 ?_
  refine callsIn_of_wp_marks Try.func27 rfl trivial ?_ rfl
  simp only [Try.ntmps27, List.size_toArray, List.length_cons, List.length_nil, Nat.reduceAdd, Nat.reduceSub, Array.replicate_succ, Array.replicate_zero, List.push_toArray, List.append_toArray, List.nil_append, List.cons_append]
  gi_wp2_with (refine ⟨trivial, ?_⟩; gi_at_call 40; refine (callsIn_wide.2 (pieces_any _ _ _)).mono ?_; rintro e w' ⟨rfl, rfl⟩)
  have hW0 : FeedI w w.heap.size g s ([], []) (.slice none 0 0) (.slice none 0 0) (((((w.alloc (.cells #[.slice none 0 0] 50)).alloc (.cells #[.slice none 0 0] 68)).alloc (.cells #[closV w.heap.size] 1)).alloc (.cells #[.pointer (some ⟨g, 0, none⟩)] 61)).alloc (.cells #[.string s] 9)) := by
    have b0 := ((((Boxed.new w 50 (.slice none 0 0)).alloc (.cells #[.slice none 0 0] 68)).alloc (.cells #[closV w.heap.size] 1)).alloc (.cells #[.pointer (some ⟨g, 0, none⟩)] 61)).alloc (.cells #[.string s] 9)
    have b1 := (((Boxed.new (w.alloc (.cells #[.slice none 0 0] 50)) 68 (.slice none 0 0)).alloc (.cells #[closV w.heap.size] 1)).alloc (.cells #[.pointer (some ⟨g, 0, none⟩)] 61)).alloc (.cells #[.string s] 9)
    have b2 := ((Boxed.new ((w.alloc (.cells #[.slice none 0 0] 50)).alloc (.cells #[.slice none 0 0] 68)) 1 (closV w.heap.size)).alloc (.cells #[.pointer (some ⟨g, 0, none⟩)] 61)).alloc (.cells #[.string s] 9)
    have b3 := (Boxed.new (((w.alloc (.cells #[.slice none 0 0] 50)).alloc (.cells #[.slice none 0 0] 68)).alloc (.cells #[closV w.heap.size] 1)) 61 (.pointer (some ⟨g, 0, none⟩))).alloc (.cells #[.string s] 9)
    have b4 := Boxed.new ((((w.alloc (.cells #[.slice none 0 0] 50)).alloc (.cells #[.slice none 0 0] 68)).alloc (.cells #[closV w.heap.size] 1)).alloc (.cells #[.pointer (some ⟨g, 0, none⟩)] 61)) 9 (.string s)
    simp only [World.size_alloc] at b1 b2 b3 b4
    exact ⟨b1, b0, b2, b3, b4, World.ownsRow_nil _ _ _ _, World.ownsRow_nil _ _ _ _, (((((Kept.refl w _).alloc _).alloc _).alloc _).alloc _).alloc _⟩
  have hsz0 : (((((w.alloc (.cells #[.slice none 0 0] 50)).alloc (.cells #[.slice none 0 0] 68)).alloc (.cells #[closV w.heap.size] 1)).alloc (.cells #[.pointer (some ⟨g, 0, none⟩)] 61)).alloc (.cells #[.string s] 9)).heap.size = w.heap.size + 5 := by simp
  have hg0 : Boxed (((((w.alloc (.cells #[.slice none 0 0] 50)).alloc (.cells #[.slice none 0 0] 68)).alloc (.cells #[closV w.heap.size] 1)).alloc (.cells #[.pointer (some ⟨g, 0, none⟩)] 61)).alloc (.cells #[.string s] 9)) g 49 (.int .i64 (n0 : Int)) := ((((hg.alloc _).alloc _).alloc _).alloc _).alloc _
  dsimp only [closV] at hW0 hsz0 hg0
  obtain ⟨W0, hW⟩ : ∃ W0, ((((w.alloc (.cells #[.slice none 0 0] 50)).alloc (.cells #[.slice none 0 0] 68)).alloc (.cells #[.func (.func 39) #[] #[.pointer (some ⟨w.heap.size + 1, 0, none⟩), .pointer (some ⟨w.heap.size, 0, none⟩)]] 1)).alloc (.cells #[.pointer (some ⟨g, 0, none⟩)] 61)).alloc (.cells #[.string s] 9) = W0 := ⟨_, rfl⟩
  rw [hW] at hW0 hsz0 hg0 ⊢
  clear hW
  refine wpIn_rangeFunc_stir (α := Ev) (encs := fun x => #[.agg #[.string ⟨x.emit.toArray⟩, .int .u8 ((kb x).toNat : Int), .bool (keyB x)]]) (Kp := KeepIt g (w.heap.size + 1 + 1 + 1 + 1) (w.heap.size + 1 + 1 + 1)) (Stir := fun A B => Kept A B (fun i => i = g))
    (S := fun xs W => xs = evs n0 s.data.toList ∧ Boxed W g 49 (.int .i64 (last n0 s.data.toList : Int))) (N := s.size)
    rfl (by omega) (gf := 42) (lb := #[.pointer (some ⟨w.heap.size + 1 + 1 + 1 + 1, 0, none⟩), .pointer (some ⟨w.heap.size + 1 + 1 + 1, 0, none⟩)]) rfl trivial (enters_of Try.func42 (by kernel_rfl) rfl)
    ?hseq ?hSo ?hst ?hKt ?hKb (fun _ => rfl)
    (fun pre W => ∃ v u, FeedI w w.heap.size g s (pre.foldl accE ([], [])) v u W) ?hI ?hIs ⟨_, _, hW0⟩
    (fun x a' W => ∃ Bx u, Whole W Bx 58 #[.string ⟨x.emit.toArray⟩, .int .u8 ((kb x).toNat : Int), .bool (keyB x)] ∧ Boxed W w.heap.size 50 u ∧ u.ownBlock ≠ some Bx ∧ a' = { tmps := #[.pointer (some ⟨g, 0, none⟩), .string s, undef, undef, .slice none 0 0, .pointer (some ⟨w.heap.size, 0, none⟩), .pointer (some ⟨w.heap.size + 1, 0, none⟩), .pointer (some ⟨w.heap.size + 1 + 1, 0, none⟩), .pointer (some ⟨Bx, 0, none⟩), .pointer (some ⟨g, 0, none⟩), .bool false, .func (.func 39) #[] #[.pointer (some ⟨w.heap.size + 1, 0, none⟩), .pointer (some ⟨w.heap.size, 0, none⟩)], .pointer (some ⟨g, 0, none⟩), .string s, .func (.func 42) #[] #[.pointer (some ⟨w.heap.size + 1 + 1 + 1 + 1, 0, none⟩), .pointer (some ⟨w.heap.size + 1 + 1 + 1, 0, none⟩)], .agg #[.string ⟨x.emit.toArray⟩, .int .u8 ((kb x).toNat : Int), .bool (keyB x)], undef, undef, undef, undef, undef, undef, undef, undef, undef, undef, undef, undef, undef, undef, undef], defers := [] }) ?hAx ?assign ?body ?done
  case hseq =>
    intro l J W hW hJ hY hJ0
    have hgW : Boxed W g 49 (.int .i64 (n0 : Int)) := boxed_below hg0 hW (by omega)
    exact iter_any _ (by omega) g _ _ l n0 hn0 s J (by omega) (by omega) hJ hY W (boxed_below hW0.hs hW (by omega)) (boxed_below hW0.hp hW (by omega)) hgW hJ0 hsz
  case hSo => exact fun xs W l o h hl => ⟨h.1, (World.putObj_heap_other (by omega)).trans h.2⟩
  case hst => exact fun A B h i o hi ho _ => (h.block i (Array.getElem?_eq_some_iff.1 ho).1 (by omega)).trans ho
  case hKt => exact fun h k => ⟨k.1.trans h.1, k.2.1.trans h.2.1, k.2.2.trans h.2.2⟩
  case hKb => exact fun W l o o' hl _ _ _ => ⟨World.putObj_heap_other (by omega), World.putObj_heap_other (by omega), World.putObj_heap_other (by omega)⟩
  case hI => exact fun pre X Y row hs hg hr => by obtain ⟨v, u, h⟩ := hs; exact ⟨v, u, h.own (Nat.le_refl _) (by omega) hg hr⟩
  case hIs => exact fun pre A B hs k => by obtain ⟨v, u, h⟩ := hs; exact ⟨v, u, h.stir hgl k⟩
  case hAx => exact fun x a' _ X Y row hs hg hr => by obtain ⟨Bx, u, h1, h2, h3, h4⟩ := hs; exact ⟨Bx, u, noncells_keep hg hr h1 rfl, noncells_keep hg hr h2 rfl, h3, h4⟩
  case assign =>
    rintro l pre x W K ⟨v, u, hI⟩ hK
    gi_wp2
    refine hK _ _ ((KeepsOthers.alloc _ _).from _) ⟨Below.heap_alloc _ _ _ ?_, Below.heap_alloc _ _ _ hI.hs.lt, Below.heap_alloc _ _ _ hI.hp.lt⟩ ⟨v, u, hI.stir hgl ((Kept.refl W _).alloc _)⟩ ⟨W.heap.size, u, Whole.new _ _ _, hI.hu.alloc _, fun e => ?_, rfl⟩
    · have := hI.hu.lt; omega
    · have := (hI.ru.lt _ e).2; omega
  case body =>
    rintro l pre x a' W ⟨v, u, hI⟩ ⟨Bx, u', hX, hu', hne, rfl⟩ hlt
    obtain rfl := boxed_inj hI.hu hu'
    clear hu'
    obtain ⟨hl1, hl2⟩ := fold_len pre ([], [])
    have HF := Lib.hid (fold_snoc pre x)
    simp only [List.length_nil, Nat.zero_add] at hl1 hl2
    generalize pre.foldl accE ([], []) = r at *
    have hX0 := hX.cell 0
    have hX2 := hX.cell 2
    have hvc := hI.hv.cell
    have hvf := hI.hv.frozen
    have huc := hI.hu.cell
    have huf := hI.hu.frozen
    have hcc := hI.hc.cell
    have hWb : w.heap.size ≤ W.heap.size := Nat.le_of_lt hI.hu.lt
    cases hkx : keyB x with
    | true =>
      obtain ⟨c, rfl⟩ : ∃ c, x = .key c := by cases x <;> first | exact ⟨_, rfl⟩ | cases hkx
      clear hkx
      have hX' : Whole W Bx 58 #[.string ⟨#[]⟩, .int .u8 (c.toNat : Int), .bool true] := hX
      have hX2' := hX'.cell 2
      clear hX0 hX2 hX
      gi_wp2_with (first | (refine ⟨trivial, ?_⟩; gi_at_call 39; refine (CallsIn.inRound l (callsIn_wide.2 (clos_any (w.heap.size + 1) w.heap.size w.heap.size r.1 r.2 v u W hI.hv hI.hu hI.rv hI.ru (by omega) hWb))).mono ?_; rintro e w1 ⟨⟨x', rfl⟩, v1, u1, hv1, hu1, rv1, ru1, hmv, hk1⟩; have hX1 := hX'.kept hk1 (notS hI hX' hne); have hc10 := hX1.cell 0; have hc11 := hX1.cell 1; have hc12 := hX1.cell 2; have huc1 := hu1.cell; have huf1 := hu1.frozen) | (gi_at_builtin; refine wpListIn_append_dst _ rfl _ _ 50 rfl w.heap.size 58 i8 (.agg #[.string ⟨#[]⟩, .int .u8 0, .bool false]) 3 24 Try.underlying50 hi8 hz8 hs8 hb8 rfl (by decide) _ _ _ rfl (ru1.alloc _) ⟨_, 0, none⟩ 1 (Pc.cells (.press c)) rfl rfl ?c1 ?c2 ?c3 ?c4 ?c5 ?_))
      case c1 => exact World.news_of_block (cs := #[.string ⟨#[]⟩, .int .u8 (c.toNat : Int), .bool true]) (heap_alloc_new w1 _)
      case c2 => exact cells_one _
      case c3 => have := flush_len r.1 r.2; unfold maxLen; omega
      case c4 => have := flush_len r.1 r.2; omega
      case c5 => have := hu1.lt; simp; omega
      intro u2 w2 ru2 hgrow2 hmv2
      obtain ⟨g2, cap2, rfl⟩ := ownsRow_succ ru2
      obtain ⟨hI1, hkp1, hkf1⟩ := hI.step (r' := (flush r.1 r.2, [])) (Nat.le_refl _) hgl hk1 (fun i hi => hi.elim (fun h => .inr (.inl h)) (fun h => h.elim .inl (fun h => .inr (.inr (.inl h))))) hv1 hu1 rv1 ru1
      have hne1 : u1.ownBlock ≠ some Bx := fun e => by
        rcases hmv with h | ⟨i, h1, h2⟩
        · exact hne (h.symm.trans e)
        · have := hX'.lt; rw [e] at h1; cases h1; omega
      have hX2 := (hX1.alloc (.cells #[.string ⟨#[]⟩, .int .u8 (c.toNat : Int), .bool true] 58)).grown hgrow2 hne1
      have hu2 := (hu1.alloc (.cells #[.string ⟨#[]⟩, .int .u8 (c.toNat : Int), .bool true] 58)).kept hgrow2 (hu1.not_row (by decide) ru1)
      have hv2 := (hv1.alloc (.cells #[.string ⟨#[]⟩, .int .u8 (c.toNat : Int), .bool true] 58)).kept hgrow2 (hv1.not_row (by decide) ru1)
      have hk2 : Kept w1 w2 (fun i => i = w.heap.size ∨ u1.ownBlock = some i) := ((Kept.refl w1 _).alloc _).grown hgrow2 (fun i hi _ => .inr hi)
      have rv2 := hk2.own rv1 (fun i hi hx => by
        rcases hx with h | h
        · exact hu1.not_row (by decide) rv1 (by rw [← h]; exact hi.symm)
        · exact own_ne_own rv1 ru1 (by decide) i hi h)
      have huc2 := hu2.cell
      have huf2 := hu2.frozen
      clear hvc hvf huc huf hcc huc1 huf1 hc10 hc11 hc12 hX2'
      -- the store of the row
      have hu3 := hu2.set (.slice (some ⟨g2, 0, none⟩) ((flush r.1 r.2).length + 1) cap2)
      have hv3 := hv2.other (show w.heap.size + 1 ≠ w.heap.size by omega) (.slice (some ⟨g2, 0, none⟩) ((flush r.1 r.2).length + 1) cap2)
      have ru3 := ru2.kept (grownBy_setCell' w2 w.heap.size (.slice (some ⟨g2, 0, none⟩) ((flush r.1 r.2).length + 1) cap2)) (.inr (hu2.not_row (by decide) ru2).symm)
      have rv3 := rv2.kept (grownBy_setCell' w2 w.heap.size (.slice (some ⟨g2, 0, none⟩) ((flush r.1 r.2).length + 1) cap2)) (.inr (hu2.not_row (by decide) rv2).symm)
      have hk3 : Kept w1 (w2.setCell ⟨w.heap.size, 0, none⟩ (.slice (some ⟨g2, 0, none⟩) ((flush r.1 r.2).length + 1) cap2)) (fun i => i = w.heap.size ∨ u1.ownBlock = some i) := hk2.setCell _ _ (fun _ => .inl rfl)
      have hX3 : Whole (w2.setCell ⟨w.heap.size, 0, none⟩ (.slice (some ⟨g2, 0, none⟩) ((flush r.1 r.2).length + 1) cap2)) Bx 58 #[.string ⟨#[]⟩, .int .u8 (c.toNat : Int), .bool true] := (Below.heap_setCell _ _ _ _ (fun e => notS hI hX' hne (.inr (.inl e)))).trans hX2
      have hle : (flush r.1 r.2 ++ [Pc.press c]).length = (flush r.1 r.2).length + 1 := by simp
      have ru4 : (w2.setCell ⟨w.heap.size, 0, none⟩ (.slice (some ⟨g2, 0, none⟩) ((flush r.1 r.2).length + 1) cap2)).ownsRow w.heap.size 58 3 (.slice (some ⟨g2, 0, none⟩) ((flush r.1 r.2).length + 1) cap2) (flush r.1 r.2 ++ [Pc.press c]).length (pcsV (flush r.1 r.2 ++ [Pc.press c])) := by rw [hle, pcsV_append, pcsV_one]; exact ru3
      obtain ⟨hI2, hkp2, hkf2⟩ := hI1.step (r' := (flush r.1 r.2 ++ [.press c], [])) (Nat.le_refl _) hgl hk3 (fun i hi => hi.elim .inl (fun h => .inr (.inr (.inl h)))) hv3 hu3 rv3 ru4
      have hXc := hX3.cell 0
      have hvc3 := hv3.cell
      have hvf3 := hv3.frozen
      clear hI hI1 hX' hX1 hX2 hX3 hu1 hv1 rv1 ru1 hmv hk1 hgrow2 ru2 hmv2 hne hne1 hk2 rv2 hu2 hv2 hk3 ru3 rv3 ru4 hle hu3 hv3
      gi_wp2_with (gi_at_builtin; refine wpListIn_append_str _ rfl _ _ 68 9 rfl w.heap.size 5 i5 Try.underlying68 Try.underlying9 hi5 hz5 hs5 hb5 _ _ _ rfl hI2.rv ⟨#[]⟩ rfl ?e1 ?e2 (Nat.le_of_lt hI2.hu.lt) ?_)
      intro v3 w3 rv5 hgrow3
      obtain ⟨A', cap', rfl, _⟩ := own_form rv5
      have hv5 := hI2.hv.kept hgrow3 (hI2.hv.not_row (by decide) hI2.rv)
      have hvc5 := hv5.cell
      have hvf5 := hv5.frozen
      clear hvc3 hvf3 hXc huc2 huf2
      gi_wp2
      have hfin := tail_any (L := []) hI2 (Nat.le_refl _) hgl rv5 hgrow3 rfl
      have hacc : accE r (.key c) = (flush r.1 r.2 ++ [.press c], [] ++ []) := rfl
      rw [← hacc, ← HF.out] at hfin
      refine ⟨⟨Nat.le_trans (hkf1 0).size (Nat.le_trans (hkf2 0).size (hfin.2.2 0).size), fun k o h1 h2 h3 => (hfin.2.2 0).same k o (Nat.zero_le _) ((hkf2 0).same k o (Nat.zero_le _) ((hkf1 0).same k o (Nat.zero_le _) h2 h3) h3) h3⟩, ?_, _, _, hfin.1⟩
      exact ⟨hfin.2.1.1.trans (hkp2.1.trans hkp1.1), hfin.2.1.2.1.trans (hkp2.2.1.trans hkp1.2.1), hfin.2.1.2.2.trans (hkp2.2.2.trans hkp1.2.2)⟩
    | false =>
      rw [hkx] at hX2
      gi_wp2_with (gi_at_builtin; refine wpListIn_append_str _ rfl _ _ 68 9 rfl w.heap.size 5 i5 Try.underlying68 Try.underlying9 hi5 hz5 hs5 hb5 _ _ _ rfl hI.rv ⟨x.emit.toArray⟩ rfl ?d1 ?d2 hWb ?_)
      case d1 => have := emit_le x; rw [emit_size]; unfold maxLen; omega
      case d2 => have := emit_le x; rw [emit_size]; omega
      intro v' w1 rv1 hgrow
      obtain ⟨A', cap', rfl, _⟩ := own_form rv1
      have hv1 := hI.hv.kept hgrow (hI.hv.not_row (by decide) hI.rv)
      have hvc1 := hv1.cell
      have hvf1 := hv1.frozen
      clear hvc hvf huc huf hcc hX0 hX2
      gi_wp2
      have hfin := tail_any hI (Nat.le_refl _) hgl rv1 hgrow (emit_size x)
      rw [← accE_plain hkx, ← HF.out] at hfin
      exact ⟨hfin.2.2 _, hfin.2.1, _, _, hfin.1⟩
  case done =>
    rintro xs W ⟨rfl, hgl'⟩ ⟨v, u, hI⟩ hK
    have hcc := hI.hc.cell
    obtain ⟨hl1, hl2⟩ := fold_len (evs n0 s.data.toList) ([], [])
    have hev := evs_length n0 s.data.toList
    have hss : s.data.toList.length = s.size := by simp
    simp only [List.length_nil, Nat.zero_add] at hl1 hl2
    have HR : Hid (fed n0 s.data.toList = flush ((evs n0 s.data.toList).foldl accE ([], [])).1 ((evs n0 s.data.toList).foldl accE ([], [])).2) := rfl
    generalize (evs n0 s.data.toList).foldl accE ([], []) = r at *
    gi_wp2_with (refine ⟨trivial, ?_⟩; gi_at_call 39; refine (callsIn_wide.2 (clos_any (w.heap.size + 1) w.heap.size w.heap.size r.1 r.2 v u W hI.hv hI.hu hI.rv hI.ru (by omega) (Nat.le_of_lt hI.hu.lt))).mono ?_; rintro e w1 ⟨⟨x', rfl⟩, v1, u1, hv1, hu1, rv1, ru1, hmv, hk1⟩; have huc1 := hu1.cell)
    rw [hsz0] at hK
    have hD : ¬ (w.heap.size + 5 = w.heap.size + 1 ∨ w.heap.size + 5 = w.heap.size ∨ u.ownBlock = some (w.heap.size + 5)) := by
      rintro (h | h | h)
      · omega
      · omega
      · have := own_cells hI.ru _ h _ hK; cases this
    have hK1 : w1.heap[w.heap.size + 5]? = some (.deferred (some [])) := (hk1.block _ (Array.getElem?_eq_some_iff.1 hK).1 hD).trans hK
    have hgu : ¬ (g = w.heap.size + 1 ∨ g = w.heap.size ∨ u.ownBlock = some g) := by
      rintro (h | h | h)
      · omega
      · omega
      · have := (hI.ru.lt g h).1; omega
    have hg1 := boxed_kept hgl' hk1 hgu
    have hkk : Kept w w1 (fun i => i = g) := hI.kept.trans hk1 (fun i hi h => by
      rcases h with h | h | h
      · omega
      · omega
      · have := (hI.ru.lt i h).1; omega)
    refine ⟨by simp, .inl ⟨_, _, rfl, run_takeDeferred hK1, ?_⟩⟩
    refine ⟨_, results_tmp rfl _ _ _, u1, rfl, ?_, ?_, ?_⟩
    · rw [HR.out]; exact ownsRow_putObj ru1 _ hK1 rfl
    · exact (World.putObj_heap_other (by omega)).trans hg1
    · exact hkk.grown (grownBy_putObj' w1 (w.heap.size + 5) (.deferred none)) (fun i hi hl => by cases hi; omega)

end Go.Proofs.Ytdgbhbifeohfjaa
