/- A range over a function that writes cells of its own: the law of the statement, where no round leaves the loop. -/
import Derived.Test.YtdgbhbifeohfjaaEscP
import Derived.RangeFuncNested
import Derived.RangeFuncBound
import Derived.RangeFuncCalls
import Derived.RangeFuncLeaves
import Derived.RangeFuncBox
namespace Go.Proofs.Ytdgbhbifeohfjaa
open Go.RowKit

/-- The two blocks of a loop: the calls that are put off, and the loop's record. -/
structure Desk (w : World) (B : Nat) (r : Loop) : Prop where
  off : w.heap[B]? = some (.deferred (some []))
  book : w.heap[B + 1]? = some (.loop r)

section
variable {w w' : World} {B : Nat} {r : Loop}
theorem desk_new (w : World) (r : Loop) : Desk ((w.alloc (.deferred (some []))).alloc (.loop r)) w.heap.size r := by
  have h1 := World.alloc_heap_new w (.deferred (some []))
  have h2 := World.alloc_heap_new (w.alloc (.deferred (some []))) (.loop r)
  rw [World.size_alloc] at h2
  exact ⟨(Below.heap_alloc _ _ _ (by simp)).trans h1, h2⟩
theorem Desk.kept (h : Desk w B r) (k : ∀ i o, B ≤ i → w.heap[i]? = some o → o.isCells = false → w'.heap[i]? = some o) : Desk w' B r :=
  ⟨k _ _ (Nat.le_refl _) h.off rfl, k _ _ (Nat.le_succ _) h.book rfl⟩
theorem Desk.lt (h : Desk w B r) : B + 1 < w.heap.size := (Array.getElem?_eq_some_iff.1 h.book).1
theorem Desk.put (h : Desk w B r) (r' : Loop) : Desk (w.putObj (B + 1) (.loop r')) B r' :=
  ⟨(World.putObj_heap_other (by omega)).trans h.off, World.putObj_heap_same h.lt⟩
end

theorem wpIn_rangeFunc_stir {F : Fence} {n : Nat} {P : Program} {α : Type} {g : Operand} {ps : Array Tmp} {assign body : Code} {Q : Exit → Act → World → Prop} {a : Act} {w : World}
    (hro : F.round = none) (h1 : 1 ≤ n) {gf : Nat} {lb : Array Value} (hg : a.eval g = .func (.func gf) #[] lb) (hFg : F.fn gf) (eg : ∀ args w, (callFunc gf args).run P w = .ok (.enter gf args) w)
    {encs : α → Array Value} {Kp Stir : World → World → Prop} {S : List α → World → Prop} {N : Nat}
    (hseq : ∀ (l : Nat) (J : List α → World → Prop) (W : World), Below w.heap.size w W → (∀ p A B, J p A → Stir A B → J p B) →
      (∀ p x W1, J p W1 → p.length < N → YieldAt F (n - 1 - 1) P l (encs x) W1 fun e W' => e = .returned (.bool true) ∧ J (p ++ [x]) W' ∧ Kp W1 W') →
      J [] W → CallsIn F (n - 1) P gf (#[.func (.yield l) #[] #[]] ++ lb) W fun e W' => (∃ v, e = .returned v) ∧ ∃ xs, S xs W' ∧ J xs W')
    (hSo : ∀ xs W l o, S xs W → w.heap.size ≤ l → S xs (W.putObj l o))
    (hst : ∀ A B, Stir A B → ∀ i o, w.heap.size ≤ i → A.heap[i]? = some o → o.isCells = false → B.heap[i]? = some o)
    (hKt : ∀ {A B C : World}, Kp A B → Kp B C → Kp A C) (hKb : ∀ (W : World) (l : Nat) (o o' : Obj), w.heap.size ≤ l → W.heap[l]? = some o → o.isCells = false → o.isWalk = false → Kp W (W.putObj l o')) (hps : ∀ x, (encs x).size = ps.size)
    (I : List α → World → Prop) (hI : OwnFrom w.heap.size I) (hIs : ∀ p A B, I p A → Stir A B → I p B) (h0 : I [] w)
    (Ax : α → Act → World → Prop) (hAx : ∀ x a', OwnFrom w.heap.size (fun (_ : Unit) W => Ax x a' W))
    (hassign : ∀ (l : Nat) (p : List α) (x : α) (W : World) (K : Act → World → Prop), I p W → (∀ a' W', KeepsFrom w.heap.size W W' → Kp W W' → I p W' → Ax x a' W' → K a' W') →
      assign.wpIn (F.inRound l) (n - 1 - 1) P (Exit.then K (fun _ _ _ => False)) { tmps := (ps.zip (encs x)).foldl (fun t (p, v) => t.setIfInBounds p v) a.tmps, defers := [] } W)
    (hbody : ∀ (l : Nat) (p : List α) (x : α) (a' : Act) (W : World), I p W → Ax x a' W → p.length < N → body.wpIn (F.inRound l) (n - 1 - 1) P (ownPostG w.heap.size Kp I (fun _ _ _ => False) (p ++ [x]) W) a' W)
    (hdone : ∀ (xs : List α) (W : World), S xs W → I xs W → W.heap[w.heap.size]? = some (.deferred (some [])) → Q .normal { a with defers := { target := .collected w.heap.size, args := #[] } :: a.defers } W) :
    (Code.rangeFunc g ps assign body).wpIn F n P Q a w := by
  refine wpIn_rangeFunc fun fn hfn => ?_
  rw [hro]
  have hen := run_enterLoop_outer (P := P) (w := w) fn a.tmps ps assign body
  obtain ⟨R, hR⟩ : ∃ R : LoopState → Loop, R = fun st => { state := st, pending := none, fn, tmps := a.tmps, params := ps, assign, body, defers := w.heap.size } := ⟨_, rfl⟩
  have hRr : ∀ s t, { R s with state := t } = R t := fun s t => by rw [hR]
  obtain ⟨W1, hW1⟩ : ∃ W1, W1 = (w.alloc (.deferred (some []))).alloc (.loop (R .ready)) := ⟨_, rfl⟩
  have hdk : Desk W1 w.heap.size (R .ready) := hW1 ▸ desk_new w _
  have hi1 : I [] W1 := hW1 ▸ hI.alloc _ (hI.alloc _ h0)
  have hb1 : Below w.heap.size w W1 := hW1 ▸ ((Below.refl _ w).alloc (Nat.le_refl _) _).alloc (by simp) _
  rw [show (w.alloc (.deferred (some []))).alloc (.loop { state := .ready, pending := none, fn, tmps := a.tmps, params := ps, assign, body, defers := w.heap.size }) = W1 by rw [hW1, hR]] at hen
  refine ⟨_, _, W1, { target := .fn (.func gf) lb, args := #[.func (.yield (w.heap.size + 1)) #[] #[]] }, W1, gf, #[.func (.yield (w.heap.size + 1)) #[] #[]] ++ lb, W1, hen, ?_, ?_, ?_, fun _ => h1, ?_⟩
  · simp only [resolve, hg]; simp [go_sem]
  · intro f' hf'; simp [Target.leads] at hf'; subst hf'; exact hFg
  · simp [invoke, go_sem, eg]
  have round : ∀ p x W, I p W ∧ Desk W w.heap.size (R .ready) → p.length < N → YieldAt F (n - 1 - 1) P (w.heap.size + 1) (encs x) W fun e W' =>
      e = .returned (.bool true) ∧ (I (p ++ [x]) W' ∧ Desk W' w.heap.size (R .ready)) ∧ Kp W W' := by
    rintro p x W ⟨hi, hd⟩ hN
    have hy := run_yield (P := P) (args := encs x) hd.book (by rw [hR]; exact hps x)
    refine ⟨_, _, _, _, hy, ?_⟩
    rw [show (R .ready).fn = fn by rw [hR], show (R .ready).params = ps by rw [hR], show (R .ready).tmps = a.tmps by rw [hR], show (R .ready).assign = assign by rw [hR], show (R .ready).body = body by rw [hR]]
    refine roundIn_of_wpIn hfn (hassign _ p x W _ hi fun a' V hk hkp hi' hax => ?_)
    have hd1 := hd.kept hk.same
    have hbr := run_beginRound (P := P) hd1.book (by rw [hR])
    rw [hRr] at hbr
    have hd2 := hd1.put (R .busy)
    refine ⟨_, hbr, wpIn_mono (hbody _ p x a' _ (hI.putObj _ hi' (by omega) hd1.book rfl) ((hAx x a').putObj (s := ()) _ hax (by omega) hd1.book rfl) hN) ?_⟩
    rintro e a3 W3 hp
    cases e with
    | normal =>
      obtain ⟨hk3, hkp3, hi3⟩ := hp
      have hd3 := hd2.kept hk3.same
      have her := run_endRound (P := P) none hd3.book
      simp only [Option.isNone_none, if_true] at her
      rw [show ({ R .busy with state := .ready, pending := none } : Loop) = R .ready by rw [hR]] at her
      exact ⟨_, _, her, rfl, ⟨hI.putObj _ hi3 (by omega) hd3.book rfl, hd3.put _⟩, hKt hkp (hKt (hKt (hKb _ _ _ _ (by omega) hd1.book rfl rfl) hkp3) (hKb _ _ _ _ (by omega) hd3.book rfl rfl))⟩
    | ret => exact hp.2.elim
    | exit id => exact hp.2.elim
    | goto t => exact hp.2.elim
    | panic ch => exact hp.elim
    | outgrown => exact hp.elim
  refine (hseq (w.heap.size + 1) (fun p W => I p W ∧ Desk W w.heap.size (R .ready)) W1 hb1 (fun p A B h hs => ⟨hIs p A B h.1 hs, h.2.kept (hst A B hs)⟩) round ⟨hi1, hdk⟩).mono ?_
  rintro e W2 ⟨⟨v, rfl⟩, xs, hS, hi, hd⟩
  have hel := run_endLoop (P := P) hd.book (by rw [hR]; simp)
  rw [show (R .ready).pending = none by rw [hR]] at hel
  exact ⟨none, _, hel, hdone xs _ (hSo _ _ _ _ hS (Nat.le_succ _)) (hI.putObj _ hi (by omega) hd.book rfl) ((World.putObj_heap_other (by omega)).trans hd.off)⟩

end Go.Proofs.Ytdgbhbifeohfjaa
