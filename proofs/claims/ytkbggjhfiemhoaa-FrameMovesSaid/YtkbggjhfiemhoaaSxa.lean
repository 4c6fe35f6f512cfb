/- The walk's core: frames as lists of slots, heaps as lists of parts that share no block; one operation at a time. -/
import Derived.Calls
import Derived.Tactics
import Derived.Deep.Quiet
import Derived.Laws.World
import Derived.Below
namespace Go.Sx

/-! ### 1. Frames -/
abbrev Env := List (Nat × Value)

def lk : Env → Nat → Option Value
  | [], _ => none
  | (k, v) :: r, t => bif Nat.beq k t then some v else lk r t

def ev (env : Env) : Operand → Option Value
  | .tmp t => lk env t
  | .const v => some v
  | .global g => some (.pointer (some ⟨g, 0, none⟩))
  | .func f => some (.func (.func f) #[] #[])

/-- The frame has 'n' slots, nothing is deferred, and the slots that the list names hold what it says. -/
structure Ag (n : Nat) (env : Env) (a : Act) : Prop where
  size : a.tmps.size = n
  defers : a.defers = []
  at_ : ∀ t v, lk env t = some v → a.tmps[t]? = some v

theorem Ag.eval {n : Nat} {env : Env} {a : Act} (h : Ag n env a) {x : Operand} {v : Value} (hx : ev env x = some v) : a.eval x = v := by
  cases x with
  | tmp t => simp only [ev] at hx; simp [Act.eval, Array.getD_eq_getD_getElem?, h.at_ t v hx]
  | const u => simpa [ev, Act.eval] using hx
  | global g => simpa [ev, Act.eval] using hx
  | func f => simpa [ev, Act.eval] using hx

theorem Ag.put {n : Nat} {env : Env} {a : Act} (h : Ag n env a) {d : Nat} (hd : Nat.blt d n = true) (v : Value) : Ag n ((d, v) :: env) (a.put (some d) v) := by
  have hd' : d < n := by simpa [Nat.blt_eq] using hd
  refine ⟨by simp [Act.put, h.size], by simp [Act.put, h.defers], fun t u ht => ?_⟩
  simp only [lk] at ht
  cases hb : Nat.beq d t with
  | true =>
    rw [hb] at ht
    have : d = t := Nat.eq_of_beq_eq_true hb
    subst this
    simp only [cond_true, Option.some.injEq] at ht
    subst ht
    simp [Act.put, h.size, hd']
  | false =>
    rw [hb] at ht
    have hne : d ≠ t := fun e => by subst e; simp [Nat.beq_refl] at hb
    simp only [cond_false] at ht
    simp only [Act.put]
    rw [Array.getElem?_setIfInBounds_ne hne]
    exact h.at_ t u ht

theorem Ag.put_none {n : Nat} {env : Env} {a : Act} (h : Ag n env a) (v : Value) : Ag n env (a.put none v) := h

/-- 'E' says no more than 'env'. -/
def Sub : Env → Env → Prop
  | [], _ => True
  | (t, v) :: r, env => lk env t = some v ∧ Sub r env

theorem Sub.lk {E env : Env} (h : Sub E env) : ∀ t v, Sx.lk E t = some v → Sx.lk env t = some v := by
  induction E with
  | nil => intro t v h'; simp [Sx.lk] at h'
  | cons p r ih =>
    obtain ⟨k, u⟩ := p
    intro t v h'
    simp only [Sx.lk] at h'
    cases hb : Nat.beq k t with
    | true =>
      rw [hb] at h'
      have : k = t := Nat.eq_of_beq_eq_true hb
      subst this
      simp only [cond_true, Option.some.injEq] at h'
      subst h'
      exact h.1
    | false => rw [hb] at h'; exact ih h.2 t v h'

theorem Ag.sub {n : Nat} {E env : Env} {a : Act} (h : Ag n env a) (hs : Sub E env) : Ag n E a :=
  ⟨h.size, h.defers, fun t v ht => h.at_ t v (hs.lk t v ht)⟩

/-! ### 2. Heaps -/
abbrev Fp := Nat → Prop
def Fp.no : Fp := fun _ => False

/-- From w to w' nothing but the blocks in F has turned (and there may be new ones). -/
structure Keep (F : Fp) (w w' : World) : Prop where
  os : w'.os = w.os
  tape : w'.tape = w.tape
  output : w'.output = w.output
  size : w.heap.size ≤ w'.heap.size
  block : ∀ k, k < w.heap.size → ¬ F k → w'.heap[k]? = w.heap[k]?

theorem Keep.refl (F : Fp) (w : World) : Keep F w w := ⟨rfl, rfl, rfl, Nat.le_refl _, fun _ _ _ => rfl⟩
theorem Keep.trans {F G : Fp} {a b c : World} (h : Keep F a b) (k : Keep G b c) (hg : ∀ i, i < a.heap.size → G i → F i) : Keep F a c :=
  ⟨k.os.trans h.os, k.tape.trans h.tape, k.output.trans h.output, Nat.le_trans h.size k.size, fun i hi hn =>
    (k.block i (Nat.lt_of_lt_of_le hi h.size) (fun hG => hn (hg i hi hG))).trans (h.block i hi hn)⟩
theorem Keep.mono {F G : Fp} {w w' : World} (h : Keep F w w') (hg : ∀ i, i < w.heap.size → F i → G i) : Keep G w w' :=
  ⟨h.os, h.tape, h.output, h.size, fun i hi hn => h.block i hi (fun hF => hn (hg i hi hF))⟩
theorem Keep.below {w w' : World} (h : Keep Fp.no w w') : RowKit.Below w.heap.size w w' := ⟨h.os, h.tape, h.output, h.size, fun k hk => h.block k hk (fun h => h)⟩
theorem Keep.of_below {w w' : World} (h : RowKit.Below w.heap.size w w') : Keep Fp.no w w' := ⟨h.os, h.tape, h.output, h.size, fun k hk _ => h.block k hk⟩
theorem Keep.drew (F : Fp) (w : World) : Keep F w { w with drawn := w.drawn + 1 } := ⟨rfl, rfl, rfl, Nat.le_refl _, fun _ _ _ => rfl⟩
theorem Keep.push (F : Fp) (w : World) (o : Obj) : Keep F w { w with heap := w.heap.push o } :=
  ⟨rfl, rfl, rfl, by simp, fun k hk _ => by simp [Array.getElem?_push, Nat.ne_of_lt hk]⟩

theorem cell_of_heap {w w' : World} {a : Addr} (h : w'.heap[a.block]? = w.heap[a.block]?) : w'.cell? a = w.cell? a := by simp [World.cell?, h]
theorem frozen_of_heap {w w' : World} {a : Addr} (h : w'.heap[a.block]? = w.heap[a.block]?) : w'.frozen? a = w.frozen? a := by simp [World.frozen?, h]
theorem block_lt {w : World} {a : Addr} {v : Value} (h : w.cell? a = some v) : a.block < w.heap.size := by
  unfold World.cell? at h
  split at h
  · rename_i hh; exact (Array.getElem?_eq_some_iff.1 hh).1
  · cases h
theorem Keep.cell {F : Fp} {w w' : World} (h : Keep F w w') {a : Addr} {v : Value} (hc : w.cell? a = some v) (hn : ¬ F a.block) : w'.cell? a = some v :=
  (cell_of_heap (h.block _ (block_lt hc) hn)).trans hc
theorem Keep.cell0 {w w' : World} (h : Keep Fp.no w w') {a : Addr} {v : Value} (hc : w.cell? a = some v) : w'.cell? a = some v := h.cell hc (fun h => h)

/-- A part of a heap: what it says of a world, on which blocks it stands. -/
structure Ch where
  ok : World → Fp → Prop
  dom : ∀ w f, ok w f → ∀ k, f k → k < w.heap.size
  loc : ∀ w w' f, ok w f → (∀ k, f k → w'.heap[k]? = w.heap[k]?) → ok w' f

def Hold : List Ch → World → Fp → Prop
  | [], _, f => ∀ k, ¬ f k
  | c :: cs, w, f => ∃ g h, c.ok w g ∧ Hold cs w h ∧ (∀ k, g k → ¬ h k) ∧ (∀ k, f k ↔ (g k ∨ h k))

theorem Hold.dom {cs : List Ch} : ∀ {w f}, Hold cs w f → ∀ k, f k → k < w.heap.size := by
  induction cs with
  | nil => intro w f h k hk; exact absurd hk (h k)
  | cons c cs ih =>
    rintro w f ⟨g, h, hg, hh, _, hf⟩ k hk
    rcases (hf k).1 hk with h1 | h1
    · exact c.dom _ _ hg _ h1
    · exact ih hh _ h1

theorem Hold.loc {cs : List Ch} : ∀ {w w' f}, Hold cs w f → (∀ k, f k → w'.heap[k]? = w.heap[k]?) → Hold cs w' f := by
  induction cs with
  | nil => intro w w' f h _; exact h
  | cons c cs ih =>
    rintro w w' f ⟨g, h, hg, hh, hd, hf⟩ hk
    exact ⟨g, h, c.loc _ _ _ hg (fun k hg' => hk k ((hf k).2 (.inl hg'))), ih hh (fun k hh' => hk k ((hf k).2 (.inr hh'))), hd, hf⟩

theorem Hold.ext {cs : List Ch} {w f f'} (h : Hold cs w f) (he : ∀ k, f k ↔ f' k) : Hold cs w f' := by
  have : f = f' := funext fun k => propext (he k)
  exact this ▸ h

/-- At this place of the walk: since w0 (where the call began) nothing but F0's blocks has turned, and the heap holds these parts, which lie in F0 or are new. -/
def In (w0 : World) (F0 : Fp) (cs : List Ch) (w : World) : Prop :=
  Keep F0 w0 w ∧ ∃ f, Hold cs w f ∧ ∀ k, f k → F0 k ∨ w0.heap.size ≤ k

theorem In.start {w : World} {F : Fp} {cs : List Ch} (h : Hold cs w F) : In w F cs w := ⟨Keep.refl _ _, F, h, fun _ hk => .inl hk⟩
theorem In.start0 (w : World) : In w Fp.no [] w := ⟨Keep.refl _ _, Fp.no, fun _ h => h, fun _ hk => .inl hk⟩

/-- What turns nothing. -/
theorem In.keep {w0 : World} {F0 : Fp} {cs : List Ch} {w w' : World} (h : In w0 F0 cs w) (k : Keep Fp.no w w') : In w0 F0 cs w' := by
  obtain ⟨hk, f, hf, hn⟩ := h
  exact ⟨hk.trans k (fun _ _ h => h.elim), f, hf.loc (fun i hi => k.block i (hf.dom i hi) (fun h => h)), hn⟩

theorem In.cell {w0 : World} {F0 : Fp} {cs : List Ch} {w : World} (h : In w0 F0 cs w) {a : Addr} {v : Value} (hc : w0.cell? a = some v) (hn : ¬ F0 a.block) : w.cell? a = some v := h.1.cell hc hn

theorem In.tail {w0 : World} {F0 : Fp} {c : Ch} {cs : List Ch} {w : World} (h : In w0 F0 (c :: cs) w) : In w0 F0 cs w := by
  obtain ⟨hk, f, ⟨g, h, hg, hh, hd, hf⟩, hn⟩ := h
  exact ⟨hk, h, hh, fun k hk => hn k ((hf k).2 (.inr hk))⟩

/-! ### 3. Parts in another order -/
theorem Hold.mid {l : List Ch} {c : Ch} : ∀ {r : List Ch} {w f}, Hold (l ++ c :: r) w f → Hold (c :: (l ++ r)) w f := by
  induction l with
  | nil => intro r w f h; exact h
  | cons d l ih =>
    rintro r w f ⟨g, h, hg, hh, hd, hf⟩
    obtain ⟨g', h', hg', hh', hd', hf'⟩ := ih hh
    refine ⟨g', fun k => g k ∨ h' k, hg', ⟨g, h', hg, hh', fun k hk hk' => hd k hk ((hf' k).2 (.inr hk')), fun k => Iff.rfl⟩, fun k hk hk' => ?_, fun k => ?_⟩
    · rcases hk' with h1 | h1
      · exact hd k h1 ((hf' k).2 (.inl hk))
      · exact hd' k hk h1
    · rw [hf k, hf' k]
      constructor
      · rintro (h1 | h1 | h1)
        · exact .inr (.inl h1)
        · exact .inl h1
        · exact .inr (.inr h1)
      · rintro (h1 | h1 | h1)
        · exact .inr (.inl h1)
        · exact .inl h1
        · exact .inr (.inr h1)

/-- The i-th part, and the others. -/
def nth : List Ch → Nat → Option (Ch × List Ch)
  | [], _ => none
  | c :: cs, 0 => some (c, cs)
  | c :: cs, i + 1 => match nth cs i with
    | some (d, r) => some (d, c :: r)
    | none => none

theorem nth_split : ∀ {cs : List Ch} {i : Nat} {d : Ch} {r : List Ch}, nth cs i = some (d, r) → ∃ l1 l2, cs = l1 ++ d :: l2 ∧ r = l1 ++ l2 := by
  intro cs
  induction cs with
  | nil => intro i d r h; simp [nth] at h
  | cons c cs ih =>
    intro i d r h
    cases i with
    | zero => simp only [nth, Option.some.injEq, Prod.mk.injEq] at h; obtain ⟨rfl, rfl⟩ := h; exact ⟨[], cs, rfl, rfl⟩
    | succ i =>
      simp only [nth] at h
      cases hn : nth cs i with
      | none => rw [hn] at h; cases h
      | some p =>
        obtain ⟨d', r'⟩ := p
        rw [hn] at h
        simp only [Option.some.injEq, Prod.mk.injEq] at h
        obtain ⟨rfl, rfl⟩ := h
        obtain ⟨l1, l2, rfl, rfl⟩ := ih hn
        exact ⟨c :: l1, l2, rfl, rfl⟩

theorem In.nth {w0 : World} {F0 : Fp} {cs : List Ch} {w : World} {i : Nat} {d : Ch} {r : List Ch} (h : In w0 F0 cs w) (hn : Sx.nth cs i = some (d, r)) : In w0 F0 (d :: r) w := by
  obtain ⟨l1, l2, rfl, rfl⟩ := nth_split hn
  exact ⟨h.1, h.2.elim fun f hf => ⟨f, hf.1.mid, hf.2⟩⟩

theorem In.get {w0 : World} {F0 : Fp} {cs : List Ch} {w : World} {i : Nat} {d : Ch} {r : List Ch} (h : In w0 F0 cs w) (hn : Sx.nth cs i = some (d, r)) : ∃ g, d.ok w g := by
  obtain ⟨_, f, ⟨g, h, hg, _⟩, _⟩ := h.nth hn
  exact ⟨g, hg⟩

/-- The parts with these places, in this order; the others fall away. -/
def pick : List Ch → List Nat → Option (List Ch)
  | _, [] => some []
  | cs, i :: is => match nth cs i with
    | some (d, r) => match pick r is with
      | some l => some (d :: l)
      | none => none
    | none => none

theorem Hold.pick : ∀ {is : List Nat} {cs l : List Ch} {w : World} {f : Fp}, Hold cs w f → Sx.pick cs is = some l → ∃ f', Hold l w f' ∧ ∀ k, f' k → f k := by
  intro is
  induction is with
  | nil =>
    intro cs l w f h hp
    simp only [Sx.pick, Option.some.injEq] at hp
    subst hp
    exact ⟨Fp.no, fun _ h => h, fun _ h => h.elim⟩
  | cons i is ih =>
    intro cs l w f h hp
    simp only [Sx.pick] at hp
    cases hn : Sx.nth cs i with
    | none => rw [hn] at hp; cases hp
    | some p =>
      obtain ⟨d, r⟩ := p
      rw [hn] at hp
      simp only at hp
      cases hq : Sx.pick r is with
      | none => rw [hq] at hp; cases hp
      | some l' =>
        rw [hq] at hp
        simp only [Option.some.injEq] at hp
        subst hp
        obtain ⟨l1, l2, rfl, rfl⟩ := nth_split hn
        obtain ⟨g, h, hg, hh, hd, hf⟩ := h.mid
        obtain ⟨f', hf', hs⟩ := ih hh hq
        exact ⟨fun k => g k ∨ f' k, ⟨g, f', hg, hf', fun k hk hk' => hd k hk (hs k hk'), fun k => Iff.rfl⟩, fun k hk => (hf k).2 (hk.imp id (hs k))⟩

theorem In.pick {w0 : World} {F0 : Fp} {cs l : List Ch} {w : World} {is : List Nat} (h : In w0 F0 cs w) (hp : Sx.pick cs is = some l) : In w0 F0 l w := by
  obtain ⟨hk, f, hf, hn⟩ := h
  obtain ⟨f', hf', hs⟩ := hf.pick hp
  exact ⟨hk, f', hf', fun k hk => hn k (hs k hk)⟩

/-! ### 4. One part turns -/
/-- The first part's blocks alone are written, or new ones come; another part stands in its place. -/
theorem In.turn {w0 : World} {F0 : Fp} {c : Ch} {cs : List Ch} {w : World} (h : In w0 F0 (c :: cs) w) {w' : World} {new : List Ch}
    (ht : ∀ g, c.ok w g → Keep g w w' ∧ ∃ g', Hold new w' g' ∧ ∀ k, g' k → g k ∨ w.heap.size ≤ k) : In w0 F0 (new ++ cs) w' := by
  obtain ⟨hk, f, ⟨g, h, hg, hh, hd, hf⟩, hn⟩ := h
  obtain ⟨hk', g', hg', hs⟩ := ht g hg
  have hlt := c.dom _ _ hg
  have hltH := Hold.dom hh
  have hH : Hold cs w' h := Hold.loc hh (fun k hk => hk'.block k (hltH k hk) (fun h' => hd k h' hk))
  refine ⟨hk.trans hk' (fun i hi hG => ?_), ?_⟩
  · rcases hn i ((hf i).2 (.inl hG)) with h1 | h1
    · exact h1
    · omega
  · have : ∀ (l : List Ch) (gg : Fp), Hold l w' gg → (∀ k, gg k → ¬ h k) → Hold (l ++ cs) w' (fun k => gg k ∨ h k) := by
      intro l
      induction l with
      | nil => intro gg hgg _; exact hH.ext (fun k => ⟨.inr, fun h => h.elim (fun h => absurd h (hgg k)) id⟩)
      | cons d l ih =>
        rintro gg ⟨g1, h1, hg1, hh1, hd1, hf1⟩ hdis
        refine ⟨g1, fun k => h1 k ∨ h k, hg1, ih h1 hh1 (fun k hk => hdis k ((hf1 k).2 (.inr hk))), fun k hk hk' => ?_, fun k => ?_⟩
        · rcases hk' with h2 | h2
          · exact hd1 k hk h2
          · exact hdis k ((hf1 k).2 (.inl hk)) h2
        · show (gg k ∨ h k) ↔ (g1 k ∨ h1 k ∨ h k)
          rw [hf1 k]; exact or_assoc
    refine ⟨_, this new g' hg' (fun k hk hk' => ?_), fun k hk => ?_⟩
    · rcases hs k hk with h1 | h1
      · exact hd k h1 hk'
      · have := hltH k hk'; omega
    · rcases hk with h1 | h1
      · rcases hs k h1 with h2 | h2
        · exact hn k ((hf k).2 (.inl h2))
        · exact .inr (Nat.le_trans hk.size h2)
      · exact hn k ((hf k).2 (.inr h1))

/-- New parts. -/
theorem In.more {w0 : World} {F0 : Fp} {cs : List Ch} {w : World} (h : In w0 F0 cs w) {w' : World} {new : List Ch}
    (hk' : Keep Fp.no w w') {g' : Fp} (hg' : Hold new w' g') (hs : ∀ k, g' k → w.heap.size ≤ k) : In w0 F0 (new ++ cs) w' := by
  let nul : Ch := ⟨fun _ f => ∀ k, ¬ f k, fun _ _ h k hk => absurd hk (h k), fun _ _ _ h _ => h⟩
  have h0 : In w0 F0 (nul :: cs) w := by
    obtain ⟨hk, f, hf, hn⟩ := h
    exact ⟨hk, f, ⟨Fp.no, f, fun _ h => h, hf, fun _ h => h.elim, fun k => ⟨.inr, fun h => h.elim (fun h => h.elim) id⟩⟩, hn⟩
  exact h0.turn (fun g hg => ⟨hk'.mono (fun _ _ h => h.elim), g', hg', fun k hk => .inr (hs k hk)⟩)

/-! ### 5. A block as a part -/
def blk (b : Nat) (o : Obj) : Ch where
  ok w f := w.heap[b]? = some o ∧ ∀ k, f k ↔ k = b
  dom w f h k hk := by
    have := (h.2 k).1 hk
    subst this
    exact (Array.getElem?_eq_some_iff.1 h.1).1
  loc w w' f h he := ⟨by rw [he b ((h.2 b).2 rfl)]; exact h.1, h.2⟩

theorem blk_new (w : World) (o : Obj) : Hold [blk w.heap.size o] { w with heap := w.heap.push o } (fun k => k = w.heap.size) :=
  ⟨fun k => k = w.heap.size, Fp.no, ⟨by simp, fun _ => Iff.rfl⟩, fun _ h => h, fun _ _ h => h, fun k => ⟨.inl, fun h => h.elim id (fun h => h.elim)⟩⟩

theorem In.alloc {w0 : World} {F0 : Fp} {cs : List Ch} {w : World} (h : In w0 F0 cs w) (o : Obj) :
    In w0 F0 (blk w.heap.size o :: cs) { w with heap := w.heap.push o } :=
  h.more (new := [blk w.heap.size o]) (Keep.push _ _ _) (blk_new w o) (fun k hk => Nat.le_of_eq (Eq.symm hk))

theorem In.size {w0 : World} {F0 : Fp} {cs : List Ch} {w : World} (h : In w0 F0 cs w) : w0.heap.size ≤ w.heap.size := h.1.size

theorem In.blk_heap {w0 : World} {F0 : Fp} {cs : List Ch} {w : World} {i b : Nat} {o : Obj} {r : List Ch} (h : In w0 F0 cs w) (hn : Sx.nth cs i = some (blk b o, r)) : w.heap[b]? = some o := by
  obtain ⟨g, hg⟩ := h.get hn
  exact hg.1

/-- A block is written as a whole. -/
theorem In.setBlk {w0 : World} {F0 : Fp} {cs : List Ch} {w : World} {b : Nat} {o o' : Obj} (h : In w0 F0 (blk b o :: cs) w) {w' : World}
    (hos : w'.os = w.os) (ht : w'.tape = w.tape) (hout : w'.output = w.output) (hsz : w'.heap.size = w.heap.size) (hb : w'.heap[b]? = some o') (hr : ∀ k, k ≠ b → w'.heap[k]? = w.heap[k]?) :
    In w0 F0 (blk b o' :: cs) w' :=
  h.turn (new := [blk b o']) (fun g hg => ⟨⟨hos, ht, hout, by omega, fun k _ hn => hr k (fun e => hn ((hg.2 k).2 e))⟩,
    fun k => k = b, ⟨fun k => k = b, Fp.no, ⟨hb, fun _ => Iff.rfl⟩, fun _ h => h, fun _ _ h => h, fun k => ⟨.inl, fun h => h.elim id (fun h => h.elim)⟩⟩, fun k hk => .inl ((hg.2 k).2 hk)⟩)

end Go.Sx
