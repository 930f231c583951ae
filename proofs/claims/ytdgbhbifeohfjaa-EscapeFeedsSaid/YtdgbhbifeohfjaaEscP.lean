/- The plain law of the escape: no program in sight. -/
import Derived.Test.YtdgbhbifeohfjaaMem
namespace Go.Proofs.Ytdgbhbifeohfjaa

/-- What a byte tells. -/
inductive Ev where
  | none : Ev
  | one : UInt8 → Ev
  | two : UInt8 → UInt8 → Ev
  | key : UInt8 → Ev

/-- A byte of the console's, or a key. -/
inductive Tok where
  | byte : UInt8 → Tok
  | hit : UInt8 → Tok
deriving DecidableEq

/-- A piece. -/
inductive Pc where
  | data : List UInt8 → Pc
  | press : UInt8 → Pc
deriving DecidableEq

def Ev.emit : Ev → List UInt8
  | .none => []
  | .one a => [a]
  | .two a b => [a, b]
  | .key _ => []
def Ev.toks : Ev → List Tok
  | .none => []
  | .one a => [.byte a]
  | .two a b => [.byte a, .byte b]
  | .key c => [.hit c]
def stp (n : Nat) (c : UInt8) : Nat × Ev :=
  if n = 2 then (0, .key c) else if n = 1 then (if c = 99 then (2, .none) else if c = 5 then (1, .one 5) else (0, .two 5 c)) else if c = 5 then (1, .none) else (0, .one c)
def evs : Nat → List UInt8 → List Ev
  | _, [] => []
  | n, c :: s => (stp n c).2 :: evs (stp n c).1 s
def last : Nat → List UInt8 → Nat
  | n, [] => n
  | n, c :: s => last (stp n c).1 s
theorem evs_append : ∀ (n : Nat) (s t : List UInt8), evs n (s ++ t) = evs n s ++ evs (last n s) t
  | _, [], _ => rfl
  | n, c :: s, t => by simp [evs, last, evs_append _ s t]
theorem last_append : ∀ (n : Nat) (s t : List UInt8), last n (s ++ t) = last (last n s) t
  | _, [], _ => rfl
  | n, c :: s, t => by simp [last, last_append _ s t]
theorem stp_le (n : Nat) (c : UInt8) : (stp n c).1 ≤ 2 := by unfold stp; split <;> (try split) <;> (try split) <;> (try split) <;> omega
theorem last_le : ∀ (n : Nat) (s : List UInt8), n ≤ 2 → last n s ≤ 2
  | _, [], h => h
  | n, c :: s, _ => last_le _ s (stp_le n c)
theorem evs_length : ∀ (n : Nat) (s : List UInt8), (evs n s).length = s.length
  | _, [] => rfl
  | n, c :: s => by simp [evs, evs_length _ s]

/-- What is held is told. -/
def flush (o : List Pc) (h : List UInt8) : List Pc := if h = [] then o else o ++ [.data h]
def accE (r : List Pc × List UInt8) : Ev → List Pc × List UInt8
  | .key c => (flush r.1 r.2 ++ [.press c], [])
  | e => (r.1, r.2 ++ e.emit)
def accT (r : List Pc × List UInt8) : Tok → List Pc × List UInt8
  | .hit c => (flush r.1 r.2 ++ [.press c], [])
  | .byte b => (r.1, r.2 ++ [b])
theorem accE_toks (r : List Pc × List UInt8) (e : Ev) : accE r e = e.toks.foldl accT r := by
  cases e <;> simp [accE, Ev.toks, Ev.emit, accT]
theorem foldE_toks : ∀ (es : List Ev) (r : List Pc × List UInt8), es.foldl accE r = (es.flatMap Ev.toks).foldl accT r
  | [], _ => rfl
  | e :: es, r => by simp [accE_toks, foldE_toks es]
def norm (ts : List Tok) : List Pc := flush (ts.foldl accT ([], [])).1 (ts.foldl accT ([], [])).2
def fed (n : Nat) (s : List UInt8) : List Pc := flush ((evs n s).foldl accE ([], [])).1 ((evs n s).foldl accE ([], [])).2
def toks (n : Nat) (s : List UInt8) : List Tok := (evs n s).flatMap Ev.toks
theorem fed_norm (n : Nat) (s : List UInt8) : fed n s = norm (toks n s) := by unfold fed norm toks; rw [foldE_toks]
theorem toks_append (n : Nat) (s t : List UInt8) : toks n (s ++ t) = toks n s ++ toks (last n s) t := by simp [toks, evs_append]

def Pc.toks : Pc → List Tok
  | .data l => l.map .byte
  | .press c => [.hit c]
def Pc.full : Pc → Prop
  | .data l => l ≠ []
  | .press _ => True
theorem flush_toks (o : List Pc) (h : List UInt8) : (flush o h).flatMap Pc.toks = o.flatMap Pc.toks ++ h.map .byte := by
  unfold flush; split
  · subst h; simp
  · simp [Pc.toks]
theorem flush_full {o : List Pc} (ho : ∀ p ∈ o, p.full) (h : List UInt8) : ∀ p ∈ flush o h, p.full := by
  unfold flush; split
  · exact ho
  · rename_i hh; intro p hp; rw [List.mem_append] at hp
    rcases hp with hp | hp
    · exact ho p hp
    · simp at hp; subst hp; exact hh
theorem fold_toks : ∀ (ts : List Tok) (r : List Pc × List UInt8), ((ts.foldl accT r).1.flatMap Pc.toks ++ (ts.foldl accT r).2.map .byte) = r.1.flatMap Pc.toks ++ r.2.map .byte ++ ts
  | [], r => by simp
  | t :: ts, r => by
    rw [List.foldl_cons, fold_toks ts]
    cases t with
    | byte b => simp [accT]
    | hit c => simp [accT, flush_toks, Pc.toks]
theorem fold_full : ∀ (ts : List Tok) (r : List Pc × List UInt8), (∀ p ∈ r.1, p.full) → ∀ p ∈ (ts.foldl accT r).1, p.full
  | [], _, h => h
  | t :: ts, r, h => by
    rw [List.foldl_cons]
    refine fold_full ts _ ?_
    cases t with
    | byte b => exact h
    | hit c =>
      intro p hp
      simp only [accT, List.mem_append] at hp
      rcases hp with hp | hp
      · exact flush_full h _ p hp
      · simp at hp; subst hp; trivial
theorem norm_toks (ts : List Tok) : (norm ts).flatMap Pc.toks = ts := by
  unfold norm; rw [flush_toks, fold_toks]; simp
theorem norm_full (ts : List Tok) : ∀ p ∈ norm ts, p.full := flush_full (fold_full ts _ (by simp)) _

/-- Side by side as one. -/
def jn (o : List Pc) (p : Pc) : List Pc :=
  match o.getLast?, p with
  | some (.data a), .data b => o.dropLast ++ [.data (a ++ b)]
  | _, _ => o ++ [p]
def Shut (o : List Pc) : Prop := ∀ a, o.getLast? ≠ some (.data a)
theorem shut_nil : Shut [] := by simp [Shut]
theorem shut_press (o : List Pc) (c : UInt8) : Shut (o ++ [.press c]) := by simp [Shut]
theorem jn_shut {o : List Pc} (h : Shut o) (p : Pc) : jn o p = o ++ [p] := by
  unfold jn
  split
  · rename_i a b hl; exact absurd hl (h a)
  · rfl
theorem jn_data (o : List Pc) (a b : List UInt8) : jn (o ++ [.data a]) (.data b) = o ++ [.data (a ++ b)] := by simp [jn]
theorem jn_press (o : List Pc) (c : UInt8) : jn o (.press c) = o ++ [.press c] := by
  unfold jn; split
  · rename_i h; cases h
  · rfl
theorem fold_bytes : ∀ (l : List UInt8) (r : List Pc × List UInt8), (l.map Tok.byte).foldl accT r = (r.1, r.2 ++ l)
  | [], r => by simp
  | b :: l, r => by simp [accT, fold_bytes l]
theorem jn_fold : ∀ (ps : List Pc) (r : List Pc × List UInt8), (∀ p ∈ ps, p.full) → Shut r.1 →
    ps.foldl jn (flush r.1 r.2) = flush ((ps.flatMap Pc.toks).foldl accT r).1 ((ps.flatMap Pc.toks).foldl accT r).2
  | [], r, _, _ => rfl
  | p :: ps, r, hp, hs => by
    rw [List.foldl_cons, List.flatMap_cons, List.foldl_append]
    cases p with
    | press c =>
      have e : jn (flush r.1 r.2) (.press c) = flush (accT r (.hit c)).1 (accT r (.hit c)).2 := by rw [jn_press]; simp [accT, flush]
      rw [e, jn_fold ps _ (fun p h => hp p (List.mem_cons_of_mem _ h)) (shut_press _ _)]
      rfl
    | data l =>
      have hl : l ≠ [] := hp (.data l) List.mem_cons_self
      have e : jn (flush r.1 r.2) (.data l) = flush r.1 (r.2 ++ l) := by
        unfold flush
        by_cases h : r.2 = []
        · rw [if_pos h, h, List.nil_append, if_neg hl, jn_shut hs]
        · rw [if_neg h, jn_data, if_neg (by simp [h])]
      rw [e, show flush r.1 (r.2 ++ l) = flush (r.1, r.2 ++ l).1 (r.1, r.2 ++ l).2 from rfl, jn_fold ps (r.1, r.2 ++ l) (fun p h => hp p (List.mem_cons_of_mem _ h)) hs]
      simp only [Pc.toks, fold_bytes]
def joined (ps : List Pc) : List Pc := ps.foldl jn []
theorem joined_eq {ps : List Pc} (h : ∀ p ∈ ps, p.full) : joined ps = norm (ps.flatMap Pc.toks) := jn_fold ps ([], []) h shut_nil
theorem joined_fed (n : Nat) (s : List UInt8) : joined (fed n s) = fed n s := by rw [fed_norm, joined_eq (norm_full _), norm_toks]
/-- Row upon row: joined they are what all bytes tell. -/
theorem joined_more {got : List Pc} {s : List UInt8} (t : List UInt8) (hf : ∀ p ∈ got, p.full) (hg : got.flatMap Pc.toks = toks 0 s) :
    (∀ p ∈ got ++ fed (last 0 s) t, p.full) ∧ (got ++ fed (last 0 s) t).flatMap Pc.toks = toks 0 (s ++ t) := by
  constructor
  · intro p hp; rw [List.mem_append] at hp
    rcases hp with hp | hp
    · exact hf p hp
    · rw [fed_norm] at hp; exact norm_full _ p hp
  · rw [List.flatMap_append, hg, fed_norm, norm_toks, toks_append]

/-- What the document says was told: pieces, what is not yet put, and the bytes that are still to be looked at. -/
def toldGo : Nat → List Pc → List UInt8 → List UInt8 → List Pc × Nat
  | 0, o, d, s => (flush o d, s.length)
  | n + 1, o, d, s =>
    match s with
    | [] => (flush o d, 0)
    | c :: r =>
      if c ≠ 5 then toldGo n o (d ++ [c]) r
      else match r with
        | [] => (flush o d, 1)
        | e :: r' =>
          if e = 5 then toldGo n o (d ++ [5]) (e :: r')
          else if e ≠ 99 then toldGo n o (d ++ [5, e]) r'
          else match r' with
            | [] => (flush o d, 2)
            | k :: r'' => toldGo n (flush o d ++ [.press k]) [] r''
def tell (s : List UInt8) : List Pc × Nat := (norm (toks 0 s), last 0 s)
theorem toldGo_eq : ∀ (n : Nat) (o : List Pc) (d s : List UInt8), s.length ≤ n →
    toldGo n o d s = (flush ((toks 0 s).foldl accT (o, d)).1 ((toks 0 s).foldl accT (o, d)).2, last 0 s)
  | 0, o, d, s, h => by
    obtain rfl : s = [] := List.eq_nil_of_length_eq_zero (by omega)
    simp [toldGo, toks, evs, last]
  | n + 1, o, d, [], _ => by simp [toldGo, toks, evs, last]
  | n + 1, o, d, c :: r, h => by
    simp only [List.length_cons] at h
    unfold toldGo
    dsimp only
    by_cases hc : c = 5
    · subst hc
      simp only [ne_eq, not_true_eq_false, if_false]
      match r with
      | [] => simp [toks, evs, last, stp, Ev.toks]
      | e :: r' =>
        simp only [List.length_cons] at h
        dsimp only
        by_cases he : e = 5
        · subst he
          rw [if_pos rfl, toldGo_eq n _ _ _ (by simp; omega)]
          simp [toks, evs, last, stp, Ev.toks, accT]
        · rw [if_neg he]
          by_cases h9 : e = 99
          · subst h9
            simp only [not_true_eq_false, if_false]
            match r' with
            | [] => simp [toks, evs, last, stp, Ev.toks]
            | k :: r'' =>
              simp only [List.length_cons] at h
              dsimp only
              rw [toldGo_eq n _ _ _ (by omega)]
              simp [toks, evs, last, stp, Ev.toks, accT]
          · rw [if_pos h9, toldGo_eq n _ _ _ (by omega)]
            simp [toks, evs, last, stp, Ev.toks, accT, he, h9]
    · rw [if_pos hc, toldGo_eq n _ _ _ (by omega)]
      simp [toks, evs, last, stp, Ev.toks, accT, hc]
theorem toldGo_tell (s : List UInt8) : toldGo s.length [] [] s = tell s := toldGo_eq _ _ _ _ (Nat.le_refl _)

/-- How many bytes, how many keys. -/
def Pc.bytes : Pc → List UInt8
  | .data l => l
  | .press _ => []
def Pc.isKey : Pc → Bool
  | .data _ => false
  | .press _ => true
def dataOf (ps : List Pc) : List UInt8 := ps.flatMap Pc.bytes
def keysOf (ps : List Pc) : Nat := (ps.filter Pc.isKey).length
def Tok.bytes : Tok → List UInt8
  | .byte b => [b]
  | .hit _ => []
def Tok.isKey : Tok → Bool
  | .byte _ => false
  | .hit _ => true
theorem map_bytes : ∀ l : List UInt8, (l.map Tok.byte).flatMap Tok.bytes = l ∧ ((l.map Tok.byte).filter Tok.isKey) = []
  | [] => ⟨rfl, rfl⟩
  | b :: l => by obtain ⟨h1, h2⟩ := map_bytes l; simp [Tok.bytes, Tok.isKey, h1]
theorem dataOf_toks : ∀ ps : List Pc, dataOf ps = (ps.flatMap Pc.toks).flatMap Tok.bytes
  | [] => rfl
  | p :: ps => by
    have ih := dataOf_toks ps
    unfold dataOf at ih ⊢
    rw [List.flatMap_cons, List.flatMap_cons, List.flatMap_append, ih]
    cases p with
    | data l => simp only [Pc.toks, Pc.bytes, (map_bytes l).1]
    | press c => simp [Pc.toks, Pc.bytes, Tok.bytes]
theorem keysOf_toks : ∀ ps : List Pc, keysOf ps = ((ps.flatMap Pc.toks).filter Tok.isKey).length
  | [] => rfl
  | p :: ps => by
    have ih := keysOf_toks ps
    unfold keysOf at ih ⊢
    rw [List.flatMap_cons, List.filter_append, List.length_append, ← ih]
    cases p with
    | data l => rw [show (Pc.data l).toks = l.map Tok.byte from rfl, (map_bytes l).2]; simp [Pc.isKey]
    | press c => show (ps.filter Pc.isKey).length + 1 = 1 + _; omega
theorem fed_data (n : Nat) (s : List UInt8) : dataOf (fed n s) = (toks n s).flatMap Tok.bytes := by rw [dataOf_toks, fed_norm, norm_toks]
theorem fed_keys (n : Nat) (s : List UInt8) : keysOf (fed n s) = ((toks n s).filter Tok.isKey).length := by rw [keysOf_toks, fed_norm, norm_toks]
theorem toks_cons (n : Nat) (c : UInt8) (s : List UInt8) : toks n (c :: s) = (stp n c).2.toks ++ toks (stp n c).1 s := by simp [toks, evs]
theorem toks_count : ∀ (s : List UInt8) (n : Nat), n ≤ 2 → ((toks n s).flatMap Tok.bytes).length + 3 * ((toks n s).filter Tok.isKey).length + last n s = n + s.length
  | [], n, _ => by simp [toks, evs, last]
  | c :: s, n, h => by
    have ih := toks_count s (stp n c).1 (stp_le n c)
    rw [toks_cons]
    simp only [List.flatMap_append, List.filter_append, List.length_append, last, List.length_cons]
    have hs : ((stp n c).2.toks.flatMap Tok.bytes).length + 3 * ((stp n c).2.toks.filter Tok.isKey).length + (stp n c).1 = n + 1 := by
      rcases (by omega : n = 0 ∨ n = 1 ∨ n = 2) with rfl | rfl | rfl <;> unfold stp <;> simp <;> (try split) <;> (try split) <;> simp [Ev.toks, Tok.bytes, Tok.isKey, List.filter]
    omega
/-- What is held. -/
def pre (n : Nat) : List UInt8 := [5, 99].take n
theorem tail_pre : ∀ (s : List UInt8) (n : Nat), n ≤ 2 → ∃ q, pre n ++ s = q ++ pre (last n s)
  | [], n, _ => ⟨[], by simp [last]⟩
  | c :: s, n, h => by
    obtain ⟨q, hq⟩ := tail_pre s (stp n c).1 (stp_le n c)
    have hs : ∃ q', pre n ++ [c] = q' ++ pre (stp n c).1 := by
      rcases (by omega : n = 0 ∨ n = 1 ∨ n = 2) with rfl | rfl | rfl
      · unfold stp; simp; split
        · rename_i h; subst h; exact ⟨[], rfl⟩
        · exact ⟨[c], by simp [pre]⟩
      · unfold stp; simp; split
        · rename_i h; subst h; exact ⟨[], rfl⟩
        · split
          · rename_i h; subst h; exact ⟨[5], rfl⟩
          · exact ⟨[5, c], by simp [pre]⟩
      · exact ⟨[5, 99, c], by simp [pre, stp]⟩
    obtain ⟨q', hq'⟩ := hs
    refine ⟨q' ++ q, ?_⟩
    rw [show pre n ++ c :: s = (pre n ++ [c]) ++ s by simp, hq', List.append_assoc, hq, last]; simp
theorem toks_plain : ∀ (s : List UInt8), (∀ c ∈ s, c ≠ 5) → toks 0 s = s.map .byte
  | [], _ => rfl
  | c :: s, h => by
    have hc := h c List.mem_cons_self
    rw [toks_cons]
    simp [stp, hc, Ev.toks, toks_plain s (fun d hd => h d (List.mem_cons_of_mem _ hd))]

end Go.Proofs.Ytdgbhbifeohfjaa
