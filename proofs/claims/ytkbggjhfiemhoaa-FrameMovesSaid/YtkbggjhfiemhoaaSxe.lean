/- Slices of the walk's own: append, reads, stores, cuts, clear. -/
import Derived.Test.YtkbggjhfiemhoaaSxd
import Derived.Laws.OwnMore
import Derived.Laws.AppendOwn
import Derived.Maps.AppendAt
namespace Go.Sx
set_option linter.unusedVariables false
set_option linter.unusedSimpArgs false

/-! ### Lists of rows -/
theorem flat_get {s : Nat} : ∀ {rows : List (List Value)} {k j : Nat} {row : List Value} {v : Value}, (∀ r ∈ rows, r.length = s) → rows[k]? = some row → row[j]? = some v → rows.flatten[k * s + j]? = some v := by
  intro rows
  induction rows with
  | nil => intro k j row v _ h; simp at h
  | cons r rows ih =>
    intro k j row v hs hk hj
    have hr : r.length = s := hs r (by simp)
    cases k with
    | zero =>
      simp only [List.getElem?_cons_zero, Option.some.injEq] at hk
      subst hk
      have hlt := (List.getElem?_eq_some_iff.1 hj).1
      simp only [List.flatten_cons, Nat.zero_mul, Nat.zero_add]
      rw [List.getElem?_append_left hlt]; exact hj
    | succ k =>
      simp only [List.getElem?_cons_succ] at hk
      have := ih (fun r' h' => hs r' (by simp [h'])) hk hj
      simp only [List.flatten_cons]
      rw [List.getElem?_append_right (by rw [hr, Nat.add_mul]; omega), hr, show (k + 1) * s + j - s = k * s + j from by rw [Nat.add_mul]; omega]
      exact this
theorem flat_len {s : Nat} : ∀ {rows : List (List Value)}, (∀ r ∈ rows, r.length = s) → rows.flatten.length = rows.length * s := by
  intro rows
  induction rows with
  | nil => intro _; simp
  | cons r rows ih =>
    intro hs
    rw [List.flatten_cons, List.length_append, hs r (by simp), ih (fun r' h' => hs r' (by simp [h'])), List.length_cons, Nat.add_mul]; omega
/-- The rows around the k-th. -/
theorem flat_split {s : Nat} {rows : List (List Value)} {k : Nat} {row : List Value} (hs : ∀ r ∈ rows, r.length = s) (hk : rows[k]? = some row) :
    rows.flatten = (rows.take k).flatten ++ row ++ (rows.drop (k + 1)).flatten ∧ (rows.take k).flatten.length = k * s := by
  obtain ⟨hlt, he⟩ := List.getElem?_eq_some_iff.1 hk
  constructor
  · conv => lhs; rw [← List.take_append_drop k rows, List.drop_eq_getElem_cons hlt, he]
    simp
  · rw [flat_len (s := s) (fun r hr => hs r (List.mem_of_mem_take hr)), List.length_take, Nat.min_eq_left (by omega)]
theorem flat_set {s : Nat} {rows : List (List Value)} {k : Nat} {row : List Value} (hs : ∀ r ∈ rows, r.length = s) (hk : k < rows.length) :
    (rows.set k row).flatten = (rows.take k).flatten ++ row ++ (rows.drop (k + 1)).flatten := by
  rw [List.set_eq_take_append_cons_drop, if_pos hk]; simp

/-- Elements that lie one behind the other, as cells. -/
theorem RowsAt.flat {w : World} {ad : Addr} {s : Nat} {rows : List (List Value)} (h : RowsAt w (some ad) s rows) : ∀ j u, rows.flatten[j]? = some u → w.cell? (ad.add j) = some u := by
  have key : ∀ (rs : List (List Value)) (k : Nat), (∀ i row, rs[i]? = some row → row.length = s ∧ ∀ j v, row[j]? = some v → w.cell? (ad.add ((k + i) * s + j)) = some v) → ∀ j u, rs.flatten[j]? = some u → w.cell? (ad.add (k * s + j)) = some u := by
    intro rs
    induction rs with
    | nil => intro k _ j u hj; simp at hj
    | cons r rs ih =>
      intro k hk j u hj
      obtain ⟨hr, h0⟩ := hk 0 r rfl
      rw [List.flatten_cons] at hj
      by_cases hlt : j < r.length
      · rw [List.getElem?_append_left hlt] at hj
        exact h0 j u hj
      · rw [List.getElem?_append_right (by omega)] at hj
        have := ih (k + 1) (fun i row hi => by
          have := hk (i + 1) row (by simpa using hi)
          rwa [show k + (i + 1) = k + 1 + i from by omega] at this) (j - r.length) u hj
        rwa [show (k + 1) * s + (j - r.length) = k * s + j from by rw [Nat.add_mul]; omega] at this
  intro j u hj
  have := key rows 0 (fun i row hi => by
    obtain ⟨h1, ad', h2, h3⟩ := h i row hi
    cases h2
    exact ⟨h1, fun j v hv => by rw [Nat.zero_add]; exact h3 j v hv⟩) j u hj
  rwa [Nat.zero_mul, Nat.zero_add] at this
theorem RowsAt.none {w : World} {s : Nat} {rows : List (List Value)} (h : RowsAt w none s rows) : rows = [] := by
  cases rows with
  | nil => rfl
  | cons r rows => obtain ⟨_, ad, h2, _⟩ := h 0 r rfl; cases h2
theorem RowsAt.len {w : World} {A : Option Addr} {s : Nat} {rows : List (List Value)} (h : RowsAt w A s rows) : ∀ r ∈ rows, r.length = s := fun r hr => by
  obtain ⟨i, hi⟩ := List.getElem?_of_mem hr
  exact (h i r hi).1

theorem flat_take {s : Nat} {rows : List (List Value)} {i : Nat} (hs : ∀ r ∈ rows, r.length = s) (hi : i ≤ rows.length) : rows.flatten.take (i * s) = (rows.take i).flatten := by
  have h : (rows.take i).flatten.length = i * s := by rw [flat_len (s := s) (fun r hr => hs r (List.mem_of_mem_take hr)), List.length_take, Nat.min_eq_left hi]
  have e : rows.flatten = (rows.take i).flatten ++ (rows.drop i).flatten := by rw [← List.flatten_append, List.take_append_drop]
  rw [e, List.take_append_of_le_length (by omega), List.take_of_length_le (by omega)]
theorem flat_drop {s : Nat} {rows : List (List Value)} {i : Nat} (hs : ∀ r ∈ rows, r.length = s) (hi : i ≤ rows.length) : rows.flatten.drop (i * s) = (rows.drop i).flatten := by
  have h : (rows.take i).flatten.length = i * s := by rw [flat_len (s := s) (fun r hr => hs r (List.mem_of_mem_take hr)), List.length_take, Nat.min_eq_left hi]
  have e : rows.flatten = (rows.take i).flatten ++ (rows.drop i).flatten := by rw [← List.flatten_append, List.take_append_drop]
  rw [e, List.drop_append_of_le_length (by omega), List.drop_eq_nil_of_le (by omega), List.nil_append]

/-! ### A literal's cells -/
theorem fold_set (off : Nat) : ∀ (L : List Value) (n : Nat) (l1 old l2 : List Value), off + n = l1.length → old.length = L.length →
    ((L.zipIdx n).foldl (fun (cs : Array Value) (p : Value × Nat) => cs.setIfInBounds (off + p.2) p.1) (l1 ++ old ++ l2).toArray) = (l1 ++ L ++ l2).toArray := by
  intro L
  induction L with
  | nil =>
    intro n l1 old l2 _ ho
    obtain rfl : old = [] := List.eq_nil_of_length_eq_zero ho
    rfl
  | cons v L ih =>
    intro n l1 old l2 h1 ho
    match old, ho with
    | u :: old, ho =>
      simp only [List.zipIdx_cons, List.foldl_cons, List.setIfInBounds_toArray, h1]
      have := ih (n + 1) (l1 ++ [v]) old l2 (by simp; omega) (by simpa using ho)
      simpa using this
def zipFrom {α : Type} : Nat → List α → List (Nat × α)
  | _, [] => []
  | k, x :: r => (k, x) :: zipFrom (k + 1) r
theorem fill_all {nn : Nat} : ∀ (vals : List Value) (k : Nat) (l1 old : List Value), k * nn = l1.length → old.length = vals.length * nn → (∀ v ∈ vals, v.cells.size = nn) →
    Instr.fill (fun i => some (i * nn, nn)) (l1 ++ old).toArray (zipFrom k vals) = some (l1 ++ vals.flatMap (·.cells.toList)).toArray := by
  intro vals
  induction vals with
  | nil =>
    intro k l1 old _ ho _
    obtain rfl : old = [] := List.eq_nil_of_length_eq_zero (by simpa using ho)
    rfl
  | cons v vals ih =>
    intro k l1 old h1 ho hv
    have hvs : v.cells.size = nn := hv v (by simp)
    have hol : nn ≤ old.length := by rw [ho, List.length_cons, Nat.add_mul]; omega
    simp only [zipFrom, Instr.fill]
    rw [if_neg (by simp [hvs]; omega)]
    have e : (v.cells.zipIdx.foldl (fun cs (p : Value × Nat) => cs.setIfInBounds (k * nn + p.2) p.1) (l1 ++ old).toArray) = ((l1 ++ v.cells.toList) ++ old.drop nn).toArray := by
      rw [← Array.foldl_toList, Array.toList_zipIdx]
      have := fold_set (k * nn) v.cells.toList 0 l1 (old.take nn) (old.drop nn) (by omega) (by simp [hvs, hol])
      rw [List.append_assoc, List.take_append_drop] at this
      exact this
    rw [e, ih (k + 1) (l1 ++ v.cells.toList) (old.drop nn) (by simp [hvs, Nat.add_mul]; omega) (by rw [List.length_drop, ho, List.length_cons, Nat.add_mul]; omega) (fun v' h' => hv v' (by simp [h']))]
    simp

/-! ### The part -/
def own (e : TypeId) (s : Nat) (v : Value) (rows : List (List Value)) : Ch where
  ok w f := (∀ r ∈ rows, r.length = s) ∧ w.ownsRow 0 e s v rows.length rows.flatten ∧ ∀ k, f k ↔ v.ownBlock = some k
  dom w f h k hk := (h.2.1.lt k ((h.2.2 k).1 hk)).2
  loc w w' f h he := by
    refine ⟨h.1, ⟨h.2.1.1, ?_⟩, h.2.2⟩
    rcases h.2.1.2 with h1 | ⟨g, cap, cur, rfl, hb, hh, h3⟩
    · exact .inl h1
    · exact .inr ⟨g, cap, cur, rfl, hb, by rw [he g ((h.2.2 g).2 rfl)]; exact hh, h3⟩

theorem own_iff {w : World} {e : TypeId} {s g n cap : Nat} {rows : List (List Value)} {f : Fp} : (own e s (.slice (some ⟨g, 0, none⟩) n cap) rows).ok w f ↔
    (∀ r ∈ rows, r.length = s) ∧ rows.length = n ∧ n ≤ cap ∧ cap ≤ maxLen ∧ (∃ junk, w.heap[g]? = some (.cells (rows.flatten ++ junk).toArray e (0, 0)) ∧ (rows.flatten ++ junk).length = cap * s) ∧ ∀ k, f k ↔ k = g := by
  constructor
  · rintro ⟨hs, ⟨hl, h2⟩, hf⟩
    rcases h2 with ⟨h1, _⟩ | ⟨g', cap', cur, h1, hb, hh, hn, hm, hc, ht⟩
    · simp at h1
    · simp only [Value.slice.injEq, Option.some.injEq, Addr.mk.injEq, and_true, true_and] at h1
      obtain ⟨rfl, hn', rfl⟩ := h1
      refine ⟨hs, hn'.symm, by omega, hm, ⟨cur.toList.drop (rows.length * s), ?_, ?_⟩, fun k => ?_⟩
      · rw [hh, ← ht, List.take_append_drop]
      · rw [← ht, List.take_append_drop]; simpa using hc
      · rw [hf k]; simp [Value.ownBlock]; exact eq_comm
  · rintro ⟨hs, rfl, hn, hm, ⟨junk, hh, hj⟩, hf⟩
    refine ⟨hs, ⟨flat_len hs, .inr ⟨g, cap, _, rfl, Nat.zero_le _, hh, hn, hm, by simpa using hj, ?_⟩⟩, fun k => ?_⟩
    · rw [← flat_len hs]; simp
    · rw [hf k]; simp [Value.ownBlock]; exact eq_comm

section
variable {c : Cx} {env : Env} {cs r : List Ch} {Q : Exit → Act → World → Prop} {ops : Array Oper} {rest : List Oper} {rr : List Code}
variable {e : TypeId} {s n cap g : Nat} {A : Option Addr} {v : Value} {rows : List (List Value)}

theorem Hold.own_nil (w : World) (e : TypeId) (s : Nat) : Hold [own e s (.slice none 0 0) []] w Fp.no :=
  ⟨Fp.no, Fp.no, ⟨by simp, World.ownsRow_nil _ _ _ _, fun k => ⟨fun h => h.elim, fun h => by simp [Value.ownBlock] at h⟩⟩, fun _ h => h, fun _ h => h.elim, fun k => ⟨fun h => h.elim, fun h => h.elim id id⟩⟩
theorem In.ownNil {w0 w : World} {F0 : Fp} (e : TypeId) (s : Nat) (h : In w0 F0 cs w) : In w0 F0 (own e s (.slice none 0 0) [] :: cs) w :=
  h.more (new := [own e s (.slice none 0 0) []]) (Keep.refl _ _) (Hold.own_nil w e s) (fun _ h => h.elim)
/-- A nil slice is one of the walk's own. -/
theorem WL.ownNil (e : TypeId) (s : Nat) (h : WL c ops Q rest env (own e s (.slice none 0 0) [] :: cs)) : WL c ops Q rest env cs := fun a w ha hw => h a w ha (hw.ownNil e s)
theorem WS.ownNil (e : TypeId) (s : Nat) (h : WS c Q rr env (own e s (.slice none 0 0) [] :: cs)) : WS c Q rr env cs := fun a w ha hw => h a w ha (hw.ownNil e s)

theorem WE.ownNil (e : TypeId) (s : Nat) {x : Exit} (h : WE c Q x env (own e s (.slice none 0 0) [] :: cs)) : WE c Q x env cs := fun a w ha hw => h a w ha (hw.ownNil e s)

/-- The value of such a slice. -/
theorem In.own_shape {w0 w : World} {F0 : Fp} {i : Nat} (h : In w0 F0 cs w) (hn : Sx.nth cs i = some (own e s v rows, r)) : ∃ A cap, v = .slice A rows.length cap ∧ (rows ≠ [] → ∃ g, A = some ⟨g, 0, none⟩) ∧ rows.length ≤ cap ∧ cap ≤ maxLen ∧ (∀ r ∈ rows, r.length = s) := by
  obtain ⟨f, hs, ⟨_, h2⟩, _⟩ := h.get hn
  rcases h2 with ⟨rfl, h0⟩ | ⟨g, cap, cur, rfl, hb, hh, hn, hm, _⟩
  · exact ⟨none, 0, by rw [h0], fun hne => absurd (List.eq_nil_of_length_eq_zero h0) hne, by omega, by simp [maxLen], hs⟩
  · exact ⟨_, cap, rfl, fun _ => ⟨g, rfl⟩, hn, hm, hs⟩
theorem In.own_some {w0 w : World} {F0 : Fp} {i : Nat} (h : In w0 F0 cs w) (hn : Sx.nth cs i = some (own e s (.slice A n cap) rows, r)) (hne : rows ≠ []) : ∃ g, A = some ⟨g, 0, none⟩ := by
  obtain ⟨A', cap', h1, h2, _⟩ := h.own_shape hn
  simp only [Value.slice.injEq] at h1
  obtain ⟨rfl, _⟩ := h1
  exact h2 hne
theorem In.own_cell {w0 w : World} {F0 : Fp} {i : Nat} (h : In w0 F0 cs w) (hn : Sx.nth cs i = some (own e s (.slice (some ⟨g, 0, none⟩) n cap) rows, r)) {k j o : Nat} {row : List Value} {u : Value} (hk : rows[k]? = some row) (hj : row[j]? = some u) (ho : o = k * s + j) : w.cell? ⟨g, o, none⟩ = some u := by
  obtain ⟨f, hf⟩ := h.get hn
  obtain ⟨hs, _, _, _, ⟨junk, hh, _⟩, _⟩ := own_iff.1 hf
  have hx := flat_get hs hk hj
  have hlt := (List.getElem?_eq_some_iff.1 hx).1
  subst ho
  simp only [World.cell?, hh, Option.isSome_none, Bool.false_eq_true, if_false, List.getElem?_toArray]
  rw [List.getElem?_append_left hlt]; exact hx
/-- Such a slice, handed on to be read. -/
theorem In.own_rows {w0 w : World} {F0 : Fp} {i : Nat} (h : In w0 F0 cs w) (hn : Sx.nth cs i = some (own e s (.slice A n cap) rows, r)) : RowsAt w A s rows := fun k row hk => by
  obtain ⟨g, rfl⟩ := h.own_some hn (fun e => by subst e; simp at hk)
  obtain ⟨f, hf⟩ := h.get hn
  obtain ⟨hs, _⟩ := own_iff.1 hf
  exact ⟨hs row (List.mem_of_getElem? hk), _, rfl, fun j u hj => by rw [add0, Nat.zero_add]; exact h.own_cell hn hk hj rfl⟩
theorem In.own_len {w0 w : World} {F0 : Fp} {i : Nat} (h : In w0 F0 cs w) (hn : Sx.nth cs i = some (own e s (.slice A n cap) rows, r)) : rows.length = n ∧ n ≤ cap ∧ cap ≤ maxLen := by
  obtain ⟨A', cap', h1, h2, h3, h4, _⟩ := h.own_shape hn
  simp only [Value.slice.injEq] at h1
  obtain ⟨_, rfl, rfl⟩ := h1
  exact ⟨rfl, h3, h4⟩

/-! ### Reads -/
section
variable {xd : TypeDesc} {xs : String} {nb : Nat} {hp cm : Bool} {al fa : Nat} {zz : Option Value} {ms : Array Method}
variable {ty : TypeId} {pos : String} {af : Array Edge} {gu : Option (Nat × Bool)}
theorem OpR.loadOwn (i k j : Nat) {d : Option Tmp} {x : Operand} {t : TypeId} {ud : TypeDesc} {o : Nat} {row : List Value} {u : Value} (hu : c.P.underlying t = some ud) (hn : aggD ud = false) (hx : ev env x = some (.pointer (some ⟨g, o, none⟩)))
    (hb : nth cs i = some (own e s (.slice (some ⟨g, 0, none⟩) n cap) rows, r)) (hk : rows[k]? = some row) (hj : row[j]? = some u) (ho : o = k * s + j) : OpR c env cs ⟨d, .load t x, ty, pos, af, gu⟩ u :=
  .load hu hn hx fun w hw => hw.own_cell hb hk hj ho
theorem OpR.loadOwnA (i k : Nat) {d : Option Tmp} {x : Operand} {t : TypeId} {ud : TypeDesc} {o : Nat} {row : List Value} (hu : c.P.underlying t = some ud) (hn : aggD ud = true) (hx : ev env x = some (.pointer (some ⟨g, o, none⟩)))
    (hb : nth cs i = some (own e s (.slice (some ⟨g, 0, none⟩) n cap) rows, r)) (hk : rows[k]? = some row) (ho : o = k * s) (hs : ty? c.P t = some ⟨xd, xs, row.length, nb, hp, al, fa, zz, cm, ms⟩) : OpR c env cs ⟨d, .load t x, ty, pos, af, gu⟩ (.agg row.toArray) :=
  .loadA hu hn hs hx fun w hw j v hv => by rw [add0]; exact hw.own_cell hb hk hv (by omega)

theorem In.blk_cell {w0 w : World} {F0 : Fp} {i b o : Nat} {vs : List Value} {fr : Nat × Nat} {u : Value} (h : In w0 F0 cs w) (hn : Sx.nth cs i = some (blk b (.cells vs.toArray e fr), r)) (hv : vs[o]? = some u) : w.cell? ⟨b, o, none⟩ = some u := by
  simp only [World.cell?, h.blk_heap hn, Option.isSome_none, Bool.false_eq_true, if_false, List.getElem?_toArray, hv]

/-! ### Values of structs -/
/-- The cells of a struct's value: zeros, with these parts laid over them. -/
def fillL (places : List (Nat × Nat)) : List Value → List (Nat × Value) → Option (List Value)
  | l, [] => some l
  | l, (i, v) :: r => match places[i]? with
    | none => none
    | some (o, s) => if v.cells.toList.length = s ∧ o + s ≤ l.length then fillL places (l.take o ++ v.cells.toList ++ l.drop (o + s)) r else none
theorem fillL_fill {places : List (Nat × Nat)} : ∀ {vals : List (Nat × Value)} {l l' : List Value}, fillL places l vals = some l' → Instr.fill (fun x => places[x]?) l.toArray vals = some l'.toArray := by
  intro vals
  induction vals with
  | nil => intro l l' h; simp only [fillL, Option.some.injEq] at h; subst h; rfl
  | cons p vals ih =>
    obtain ⟨i, v⟩ := p
    intro l l' h
    simp only [fillL] at h
    simp only [Instr.fill]
    cases hp : places[i]? with
    | none => rw [hp] at h; cases h
    | some q =>
      obtain ⟨o, s⟩ := q
      rw [hp] at h
      simp only at h ⊢
      split at h
      · rename_i hc
        obtain ⟨h1, h2⟩ := hc
        have hvs : v.cells.size = s := by simpa using h1
        rw [if_neg (by simp [hvs]; omega)]
        have e : (v.cells.zipIdx.foldl (fun cs (p : Value × Nat) => cs.setIfInBounds (o + p.2) p.1) l.toArray) = (l.take o ++ v.cells.toList ++ l.drop (o + s)).toArray := by
          rw [← Array.foldl_toList, Array.toList_zipIdx]
          have := fold_set o v.cells.toList 0 (l.take o) ((l.drop o).take s) (l.drop (o + s)) (by rw [List.length_take]; omega) (by rw [List.length_take, List.length_drop]; omega)
          rw [List.append_assoc, ← List.drop_drop, List.take_append_drop, List.take_append_drop, List.drop_drop] at this
          exact this
        rw [e]
        exact ih h
      · cases h
def placesOf (P : Program) : List Field → Option (List (Nat × Nat))
  | [] => some []
  | f :: r => match ty? P f.type with
    | some i => match placesOf P r with
      | some l => some ((f.offset, i.size) :: l)
      | none => none
    | none => none
theorem run_places {P : Program} {w : World} : ∀ {fs : List Field} {l : List (Nat × Nat)}, placesOf P fs = some l → (fs.mapM (fun (f : Field) => (do Pure.pure (f.offset, ← sizeOf f.type) : Sem (Nat × Nat)))).run P w = .ok l w := by
  intro fs
  induction fs with
  | nil => intro l h; simp only [placesOf, Option.some.injEq] at h; subst h; rfl
  | cons f fs ih =>
    intro l h
    simp only [placesOf] at h
    cases ht : ty? P f.type with
    | none => rw [ht] at h; cases h
    | some i =>
      rw [ht] at h
      simp only at h
      cases hp : placesOf P fs with
      | none => rw [hp] at h; cases h
      | some l' =>
        rw [hp] at h
        simp only [Option.some.injEq] at h
        subst h
        have hs : (sizeOf f.type).run P w = .ok i.size w := by simp only [sizeOf, Sem.run_bind, run_inf (ty?_info ht), Result.andThen_ok]; rfl
        rw [List.mapM_cons]
        simp only [Sem.run_bind, hs, Result.andThen_ok, Sem.run_pure, ih hp]
theorem vals_eval {n : Nat} {a : Act} (ha : Ag n env a) : ∀ {parts : List (Nat × Operand)} {vals : List (Nat × Value)}, parts.map (fun p => (p.1, ev env p.2)) = vals.map (fun p => (p.1, some p.2)) → parts.map (fun p => (p.1, a.eval p.2)) = vals := by
  intro parts
  induction parts with
  | nil => intro vals hv; cases vals with
    | nil => rfl
    | cons _ _ => simp at hv
  | cons p parts ih => intro vals hv; cases vals with
    | nil => simp at hv
    | cons q vals =>
      simp only [List.map_cons, List.cons.injEq, Prod.mk.injEq] at hv
      obtain ⟨⟨h1, h2⟩, h3⟩ := hv
      rw [List.map_cons, ih h3, ha.eval h2, h1]
theorem OpR.build (vals : List (Nat × Value)) (l : List Value) {d : Option Tmp} {t : TypeId} {fs : List Field} {pl : List (Nat × Nat)} {parts : List (Nat × Operand)} {z : Value} {zl : List Value} {nn : Nat} (hu : c.P.underlying t = some (.struct fs.toArray)) (hz : ty? c.P t = some ⟨xd, xs, nn, nb, hp, al, fa, some z, cm, ms⟩) (hzl : z.cells = zl.toArray)
    (hp : placesOf c.P fs = some pl) (hv : parts.map (fun p => (p.1, ev env p.2)) = vals.map (fun p => (p.1, some p.2))) (hf : fillL pl zl vals = some l) : OpR c env cs ⟨d, .build t parts.toArray, ty, pos, af, gu⟩ (.agg l.toArray) := .of_run fun a w ha hw => by
  have e1 := run_places (w := w) hp
  simp only [execOp, Instr.build, Sem.run_bind, run_zero hz, Result.andThen_ok, run_und hu, List.mapM_toArray, Sem.run_map, e1, hzl, List.map_toArray, vals_eval ha hv, List.getElem?_toArray, fillL_fill hf, Sem.run_pure]

/-! ### Made, and appended to -/
theorem WL.buildSlice (vals : List Value) {d : Nat} {t : TypeId} {xo : List Operand} {parts : List (Nat × Operand)} {z : Value} {nn m : Nat} (hu : c.P.underlying t = some (.slice e)) (hz : ty? c.P e = some ⟨xd, xs, nn, nb, hp, al, fa, some z, cm, ms⟩)
    (hv : args? env xo = some vals) (hpt : parts = zipFrom 0 xo) (hm : m = vals.length) (hs : m * nn ≤ 16777216) (hsz : vals.all (fun v => v.cells.size == nn) = true) (hg : gd ops env gu = some true) (hn : Nat.blt d c.n = true)
    (h : ∀ b, c.w0.heap.size ≤ b → WL c ops Q rest ((d, .slice (some ⟨b, 0, none⟩) m m) :: env) (blk b (.cells (vals.flatMap (·.cells.toList)).toArray e (0, 0)) :: cs)) : WL c ops Q (⟨some d, .buildSlice t m parts.toArray, ty, pos, af, gu⟩ :: rest) env cs :=
  WL.run hg rfl hn fun a w ha hw => by
    subst hpt
    have hp : ∀ (l : List Operand) (k : Nat), (zipFrom k l).map (fun p => (p.1, a.eval p.2)) = zipFrom k (l.map a.eval) := by
      intro l
      induction l with
      | nil => intro k; rfl
      | cons x l ih => intro k; simp only [zipFrom, List.map_cons, ih]
    have hle : ¬ (m * nn > 2 ^ 24) := by simpa using hs
    have hfill : ∀ zz : Array Value, Instr.fill (fun i => some (i * nn, nn)) ((Array.range (m * nn)).map (zz[· % zz.size]!)) (zipFrom 0 vals) = some (vals.flatMap (·.cells.toList)).toArray := fun zz => by
      have := fill_all (nn := nn) vals 0 [] ((Array.range (m * nn)).map (zz[· % zz.size]!)).toList (by simp) (by simp [hm]) (fun v hv => by have := List.all_eq_true.1 hsz v hv; simpa using this)
      simp only [List.nil_append] at this
      exact this
    refine ⟨_, _, _, ?_, hw.alloc (.cells (vals.flatMap (·.cells.toList)).toArray e), h _ hw.size⟩
    by_cases h0 : m * nn = 0
    · simp only [execOp, Instr.buildSlice, Sem.run_bind, run_und hu, Result.andThen_ok, run_size hz, if_neg hle, if_pos h0, Sem.run_pure, List.map_toArray, hp, args?_eval ha hv, hfill, newRow, run_newObj]
    · simp only [execOp, Instr.buildSlice, Sem.run_bind, run_und hu, Result.andThen_ok, run_size hz, if_neg hle, if_neg h0, run_zero hz, Sem.run_pure, List.map_toArray, hp, args?_eval ha hv, hfill, newRow, run_newObj]

/-- append: the elements that are appended lie as whatever is known tells it. -/
theorem WL.append (i : Nat) {d : Nat} {x y : Operand} {t : TypeId} {B : Addr} {m q : Nat} {news : List (List Value)} {z : Value} {N : Nat} (ht : c.P.underlying t = some (.slice e)) (hz : ty? c.P e = some ⟨xd, xs, s, nb, hp, al, fa, some z, cm, ms⟩) (hzs : z.cells.size = s) (hsz : 0 < s)
    (hx : ev env x = some v) (hy : ev env y = some (.slice (some B) m q)) (hb : nth cs i = some (own e s v rows, r)) (hm : news.length = m) (hr : ∀ l ∈ news, l.length = s) (h1 : news.flatten.all (·.oneCell') = true)
    (hsrc : ∀ w, In c.w0 c.F0 cs w → ∀ j u, news.flatten[j]? = some u → w.cell? (B.add j) = some u) (hN : rows.length + m = N) (hbytes : N * nb ≤ 140737488355328) (hnb : 0 < nb) (hg : gd ops env gu = some true) (hn : Nat.blt d c.n = true)
    (h : ∀ A cap, WL c ops Q rest ((d, .slice A N cap) :: env) (own e s (.slice A N cap) (rows ++ news) :: r)) : WL c ops Q (⟨some d, .call ⟨.builtin .append, #[x, y], #[t, t]⟩, ty, pos, af, gu⟩ :: rest) env cs :=
  WL.run hg rfl hn fun a w ha hw => by
    subst hN
    have hin := hw.nth hb
    obtain ⟨f, hs, hown, hf⟩ := hw.get hb
    have hle : rows.length + m ≤ 140737488355328 := Nat.le_trans (Nat.le_mul_of_pos_right _ hnb) hbytes
    obtain ⟨v', w', e1, ho', hg', _, hat⟩ := run_append_own_at (P := c.P) w 0 t ty e _ z s nb ht (ty?_info hz) rfl rfl rfl hzs hsz v rows.length rows.flatten hown B m q news.flatten (by rw [flat_len hr, hm]) (hsrc w hw) (fun u hu => List.all_eq_true.1 h1 u hu) (by simp only [maxLen]; omega) hbytes (Nat.zero_le _)
    have hfl : rows.flatten ++ news.flatten = (rows ++ news).flatten := by simp
    have hlen : (rows ++ news).length = rows.length + m := by simp [hm]
    rw [hfl, ← hlen] at ho'
    have hok : (own e s v' (rows ++ news)).ok w' (fun k => v'.ownBlock = some k) := ⟨fun l hl => (List.mem_append.1 hl).elim (hs l) (hr l), ho', fun _ => Iff.rfl⟩
    have hin' : In c.w0 c.F0 (own e s v' (rows ++ news) :: r) w' := by
      refine hin.turn (new := [own e s v' (rows ++ news)]) (fun g0 hg0 => ?_)
      obtain ⟨_, _, hf0⟩ := hg0
      refine ⟨⟨hg'.os, hg'.tape, hg'.output, hg'.size, fun k hk hn => hg'.block k hk (fun e => hn ((hf0 k).2 e.symm))⟩, fun k => v'.ownBlock = some k, ⟨_, Fp.no, hok, fun _ h => h, fun _ _ h => h, fun k => ⟨.inl, fun h => h.elim id (fun h => h.elim)⟩⟩, fun k hk => ?_⟩
      rcases hat with h5 | h5
      · exact .inl ((hf0 k).2 (by rw [← h5]; exact hk))
      · right
        have : some w.heap.size = some k := h5.symm.trans hk
        simp only [Option.some.injEq] at this
        omega
    obtain ⟨A, cap, rfl, _⟩ := hin'.own_shape (i := 0) rfl
    rw [hlen] at e1 hin'
    refine ⟨_, w', _, ?_, hin', h A cap⟩
    simp only [execOp, resolve, invoke, builtin, List.map_toArray, List.map_cons, List.map_nil, ha.eval hx, ha.eval hy, Sem.run_bind, Sem.run_pure, Result.andThen_ok, e1]
/-- Nothing is appended. -/
theorem WL.append_none (i : Nat) {d : Nat} {x y : Operand} {t : TypeId} {z : Option Value} (ht : c.P.underlying t = some (.slice e)) (hz : ty? c.P e = some ⟨xd, xs, s, nb, hp, al, fa, z, cm, ms⟩)
    (hx : ev env x = some v) (hy : ev env y = some (.slice none 0 0)) (hb : nth cs i = some (own e s v rows, r)) (hg : gd ops env gu = some true) (hn : Nat.blt d c.n = true)
    (h : ∀ A cap, v = .slice A rows.length cap → WL c ops Q rest ((d, v) :: env) cs) : WL c ops Q (⟨some d, .call ⟨.builtin .append, #[x, y], #[t, t]⟩, ty, pos, af, gu⟩ :: rest) env cs :=
  WL.run hg rfl hn fun a w ha hw => by
    obtain ⟨A, cap, rfl, _, hle, _⟩ := hw.own_shape hb
    refine ⟨_, w, cs, ?_, hw, h A cap rfl⟩
    simp only [execOp, resolve, invoke, builtin, List.map_toArray, List.map_cons, List.map_nil, ha.eval hx, ha.eval hy, Sem.run_bind, Sem.run_pure, Result.andThen_ok]
    cases A <;> simp [Builtin.append_, run_und ht, run_size hz, Builtin.lenOf, Builtin.firstCells, hle, storeCells]

/-! ### A part laid open as its block, and closed again -/
theorem In.openOwn {w0 w : World} {F0 : Fp} (h : In w0 F0 (own e s (.slice (some ⟨g, 0, none⟩) n cap) rows :: r) w) :
    ∃ junk, rows.length = n ∧ n ≤ cap ∧ cap ≤ maxLen ∧ (∀ l ∈ rows, l.length = s) ∧ (rows.flatten ++ junk).length = cap * s ∧ In w0 F0 (blk g (.cells (rows.flatten ++ junk).toArray e (0, 0)) :: r) w := by
  obtain ⟨hk, f, ⟨G, H, hG, hH, hd, hor⟩, hn⟩ := h
  obtain ⟨hs, h1, h2, h3, ⟨junk, hh, hj⟩, hf⟩ := own_iff.1 hG
  exact ⟨junk, h1, h2, h3, hs, hj, hk, f, ⟨G, H, ⟨hh, hf⟩, hH, hd, hor⟩, hn⟩
theorem WL.openOwn (i : Nat) (hb : nth cs i = some (own e s (.slice (some ⟨g, 0, none⟩) n cap) rows, r))
    (h : ∀ junk, rows.length = n → n ≤ cap → cap ≤ maxLen → (∀ l ∈ rows, l.length = s) → (rows.flatten ++ junk).length = cap * s → WL c ops Q rest env (blk g (.cells (rows.flatten ++ junk).toArray e (0, 0)) :: r)) : WL c ops Q rest env cs := fun a w ha hw => by
  obtain ⟨junk, h1, h2, h3, h4, h5, h6⟩ := (hw.nth hb).openOwn
  exact h junk h1 h2 h3 h4 h5 a w ha h6
theorem WS.openOwn (i : Nat) (hb : nth cs i = some (own e s (.slice (some ⟨g, 0, none⟩) n cap) rows, r))
    (h : ∀ junk, rows.length = n → n ≤ cap → cap ≤ maxLen → (∀ l ∈ rows, l.length = s) → (rows.flatten ++ junk).length = cap * s → WS c Q rr env (blk g (.cells (rows.flatten ++ junk).toArray e (0, 0)) :: r)) : WS c Q rr env cs := fun a w ha hw => by
  obtain ⟨junk, h1, h2, h3, h4, h5, h6⟩ := (hw.nth hb).openOwn
  exact h junk h1 h2 h3 h4 h5 a w ha h6
theorem In.closeOwn {w0 w : World} {F0 : Fp} {cells : List Value} (rows : List (List Value)) (junk : List Value) (h : In w0 F0 (blk g (.cells cells.toArray e (0, 0)) :: r) w) (hc : cells = rows.flatten ++ junk) (hl : rows.length = n) (hn : n ≤ cap) (hm : cap ≤ maxLen) (hs : ∀ l ∈ rows, l.length = s) (hj : cells.length = cap * s) :
    In w0 F0 (own e s (.slice (some ⟨g, 0, none⟩) n cap) rows :: r) w := by
  subst hc
  obtain ⟨hk, f, ⟨G, H, hG, hH, hd, hor⟩, hN⟩ := h
  exact ⟨hk, f, ⟨G, H, own_iff.2 ⟨hs, hl, hn, hm, ⟨junk, hG.1, hj⟩, hG.2⟩, hH, hd, hor⟩, hN⟩
theorem WL.closeOwn (i : Nat) (rows : List (List Value)) (junk : List Value) (n cap s : Nat) {cells : List Value} (hb : nth cs i = some (blk g (.cells cells.toArray e (0, 0)), r)) (hc : cells = rows.flatten ++ junk) (hl : rows.length = n) (hn : n ≤ cap) (hm : cap ≤ maxLen) (hs : ∀ l ∈ rows, l.length = s) (hj : cells.length = cap * s)
    (h : WL c ops Q rest env (own e s (.slice (some ⟨g, 0, none⟩) n cap) rows :: r)) : WL c ops Q rest env cs := fun a w ha hw =>
  h a w ha (((hw.nth hb).closeOwn (n := n) (cap := cap) (s := s) rows junk hc hl hn hm hs hj))
theorem WS.closeOwn (i : Nat) (rows : List (List Value)) (junk : List Value) (n cap s : Nat) {cells : List Value} (hb : nth cs i = some (blk g (.cells cells.toArray e (0, 0)), r)) (hc : cells = rows.flatten ++ junk) (hl : rows.length = n) (hn : n ≤ cap) (hm : cap ≤ maxLen) (hs : ∀ l ∈ rows, l.length = s) (hj : cells.length = cap * s)
    (h : WS c Q rr env (own e s (.slice (some ⟨g, 0, none⟩) n cap) rows :: r)) : WS c Q rr env cs := fun a w ha hw =>
  h a w ha (((hw.nth hb).closeOwn (n := n) (cap := cap) (s := s) rows junk hc hl hn hm hs hj))
/-- Its first elements alone. -/
theorem In.takeOwn {w0 w : World} {F0 : Fp} (k : Nat) (hk : k ≤ n) (h : In w0 F0 (own e s (.slice (some ⟨g, 0, none⟩) n cap) rows :: r) w) : In w0 F0 (own e s (.slice (some ⟨g, 0, none⟩) k cap) (rows.take k) :: r) w := by
  obtain ⟨junk, h1, h2, h3, h4, h5, h6⟩ := h.openOwn
  refine h6.closeOwn (rows.take k) ((rows.drop k).flatten ++ junk) ?_ (by rw [List.length_take]; omega) (by omega) h3 (fun l hl => h4 l (List.mem_of_mem_take hl)) h5
  rw [← List.append_assoc, ← List.flatten_append, List.take_append_drop]

/-! ### Stores -/
theorem WL.storeOwn (i k j : Nat) {x y : Operand} {t : TypeId} {o : Nat} {u : Value} {row : List Value} (hst : ty? c.P t = some ⟨xd, xs, 1, nb, hp, al, fa, zz, cm, ms⟩) (hx : ev env x = some (.pointer (some ⟨g, o, none⟩))) (hy : ev env y = some u) (hv : u.oneCell' = true)
    (hb : nth cs i = some (own e s (.slice (some ⟨g, 0, none⟩) n cap) rows, r)) (hk : rows[k]? = some row) (hj : j < s) (ho : o = k * s + j) (hg : gd ops env gu = some true)
    (h : WL c ops Q rest env (own e s (.slice (some ⟨g, 0, none⟩) n cap) (rows.set k (row.set j u)) :: r)) : WL c ops Q (⟨none, .store t x y, ty, pos, af, gu⟩ :: rest) env cs :=
  WL.openOwn i hb fun junk h1 h2 h3 h4 h5 => by
    obtain ⟨e1, e2⟩ := flat_split h4 hk
    obtain ⟨hlt, he⟩ := List.getElem?_eq_some_iff.1 hk
    have hrow : row.length = s := h4 row (List.mem_of_getElem? hk)
    have hfl := flat_len h4
    refine WL.storeB 0 hst hx hy hv rfl (by rw [List.length_append, e1, List.length_append, List.length_append]; omega) hg ?_
    refine WL.closeOwn 0 (rows.set k (row.set j u)) junk n cap s rfl ?_ (by simpa using h1) h2 h3 (fun l hl => ?_) (by simpa using h5) h
    · rw [flat_set h4 hlt, e1]
      rw [List.append_assoc, List.append_assoc, List.set_append_right _ _ (by omega), List.set_append_left _ _ (by omega), show o - (rows.take k).flatten.length = j from by omega]
      simp
    · rcases List.mem_or_eq_of_mem_set hl with hl | rfl
      · exact h4 l hl
      · simpa using hrow
theorem WL.storeOwnA (i k : Nat) {x y : Operand} {t : TypeId} {o : Nat} {row new : List Value} (hst : ty? c.P t = some ⟨xd, xs, new.length, nb, hp, al, fa, zz, cm, ms⟩) (hx : ev env x = some (.pointer (some ⟨g, o, none⟩))) (hy : ev env y = some (.agg new.toArray)) (hv : new.all (·.oneCell') = true) (hsz : new.length = s)
    (hb : nth cs i = some (own e s (.slice (some ⟨g, 0, none⟩) n cap) rows, r)) (hk : rows[k]? = some row) (ho : o = k * s) (hg : gd ops env gu = some true)
    (h : WL c ops Q rest env (own e s (.slice (some ⟨g, 0, none⟩) n cap) (rows.set k new) :: r)) : WL c ops Q (⟨none, .store t x y, ty, pos, af, gu⟩ :: rest) env cs :=
  WL.openOwn i hb fun junk h1 h2 h3 h4 h5 => by
    obtain ⟨e1, e2⟩ := flat_split h4 hk
    obtain ⟨hlt, he⟩ := List.getElem?_eq_some_iff.1 hk
    have hrow : row.length = s := h4 row (List.mem_of_getElem? hk)
    refine WL.storeBA 0 (l1 := (rows.take k).flatten) (old := row) (l2 := (rows.drop (k + 1)).flatten ++ junk) hst hx hy hv rfl (by rw [e1]; simp) (by omega) (by omega) hg ?_
    have hflat : (rows.take k).flatten ++ new ++ ((rows.drop (k + 1)).flatten ++ junk) = (rows.set k new).flatten ++ junk := by rw [flat_set h4 hlt]; simp
    refine WL.closeOwn 0 (rows.set k new) junk n cap s rfl hflat (by simpa using h1) h2 h3 (fun l hl => ?_) ?_ h
    · rcases List.mem_or_eq_of_mem_set hl with hl | rfl
      · exact h4 l hl
      · exact hsz
    · rw [← h5, e1]; simp; omega

/-! ### Cuts -/
theorem run_bound {k : IntKind} {i : Nat} {y : Nat} {code : BoundsCode} {w : World} {P : Program} (h : i ≤ y) : (Instr.sliceBound (.int k (i : Int)) y code).run P w = .ok i w := by
  simp only [Instr.sliceBound, asIntOf, Sem.run_bind, Sem.run_pure, Result.andThen_ok]
  rw [if_pos ⟨by omega, by omega⟩]
  simp
theorem OpR.sliceHi {d : Option Tmp} {x y : Operand} {t : TypeId} {k : IntKind} {m : Nat} (ht : c.P.underlying t = some (.slice e)) (hz : ty? c.P e = some ⟨xd, xs, s, nb, hp, al, fa, zz, cm, ms⟩) (hx : ev env x = some (.slice A n cap)) (hy : ev env y = some (.int k (m : Int))) (hm : m ≤ cap) :
    OpR c env cs ⟨d, .slice t x none (some y) none, ty, pos, af, gu⟩ (.slice A m cap) := .of_run fun a w ha hw => by
  have h0 : A.map (·.add 0) = A := by cases A <;> simp [Addr.add]
  simp only [execOp, Instr.sliceAt, ha.eval hx, ha.eval hy, Option.map_some, Option.map_none, Sem.run_bind, run_und ht, Result.andThen_ok, Instr.slice, Instr.sliceBounds, Sem.run_pure, run_bound hm, if_true, run_size hz, Nat.zero_mul, h0, ite_self, Nat.sub_zero]
theorem OpR.sliceLo {d : Option Tmp} {x y : Operand} {t : TypeId} {k : IntKind} {m : Nat} (ht : c.P.underlying t = some (.slice e)) (hz : ty? c.P e = some ⟨xd, xs, s, nb, hp, al, fa, zz, cm, ms⟩) (hx : ev env x = some (.slice A n cap)) (hy : ev env y = some (.int k (m : Int))) (hm : m ≤ n) :
    OpR c env cs ⟨d, .slice t x (some y) none none, ty, pos, af, gu⟩ (.slice (if cap = m then A else A.map (·.add (m * s))) (n - m) (cap - m)) := .of_run fun a w ha hw => by
  simp only [execOp, Instr.sliceAt, ha.eval hx, ha.eval hy, Option.map_some, Option.map_none, Sem.run_bind, run_und ht, Result.andThen_ok, Instr.slice, Instr.sliceBounds, Sem.run_pure, run_bound hm, if_true, run_size hz]
theorem OpR.sliceLoHi {d : Option Tmp} {x y y' : Operand} {t : TypeId} {k k' : IntKind} {m m' : Nat} (ht : c.P.underlying t = some (.slice e)) (hz : ty? c.P e = some ⟨xd, xs, s, nb, hp, al, fa, zz, cm, ms⟩) (hx : ev env x = some (.slice A n cap)) (hy : ev env y = some (.int k (m : Int))) (hy' : ev env y' = some (.int k' (m' : Int))) (hm : m ≤ m') (hm' : m' ≤ cap) :
    OpR c env cs ⟨d, .slice t x (some y) (some y') none, ty, pos, af, gu⟩ (.slice (if cap = m then A else A.map (·.add (m * s))) (m' - m) (cap - m)) := .of_run fun a w ha hw => by
  simp only [execOp, Instr.sliceAt, ha.eval hx, ha.eval hy, ha.eval hy', Option.map_some, Option.map_none, Sem.run_bind, run_und ht, Result.andThen_ok, Instr.slice, Instr.sliceBounds, Sem.run_pure, run_bound hm, run_bound hm', if_true, run_size hz]
theorem OpR.slice3 {d : Option Tmp} {x y y' y'' : Operand} {t : TypeId} {k k' k'' : IntKind} {m m' m'' : Nat} (ht : c.P.underlying t = some (.slice e)) (hz : ty? c.P e = some ⟨xd, xs, s, nb, hp, al, fa, zz, cm, ms⟩) (hx : ev env x = some (.slice A n cap)) (hy : ev env y = some (.int k (m : Int))) (hy' : ev env y' = some (.int k' (m' : Int))) (hy'' : ev env y'' = some (.int k'' (m'' : Int))) (hm : m ≤ m') (hm' : m' ≤ m'') (hm'' : m'' ≤ cap) :
    OpR c env cs ⟨d, .slice t x (some y) (some y') (some y''), ty, pos, af, gu⟩ (.slice (if m'' = m then A else A.map (·.add (m * s))) (m' - m) (m'' - m)) := .of_run fun a w ha hw => by
  simp only [execOp, Instr.sliceAt, ha.eval hx, ha.eval hy, ha.eval hy', ha.eval hy'', Option.map_some, Option.map_none, Sem.run_bind, run_und ht, Result.andThen_ok, Instr.slice, Instr.sliceBounds, Sem.run_pure, run_bound hm, run_bound hm', run_bound hm'', if_true, run_size hz]

/-! ### clear, and append within a block -/
theorem toList_zero (z : Array Value) (m : Nat) (h0 : 0 < z.size) : (Builtin.zeroCells z m).toList = (List.replicate m z.toList).flatten := by
  apply List.ext_getElem?
  intro j
  rw [Builtin.zeroCells]
  by_cases hj : j < m * z.size
  · have hl : (Array.range (m * z.size)).size = m * z.size := by simp
    have hq : j / z.size < m := by rw [Nat.div_lt_iff_lt_mul h0]; exact hj
    have hr : j % z.size < z.size := Nat.mod_lt _ h0
    have := flat_get (s := z.size) (rows := List.replicate m z.toList) (k := j / z.size) (j := j % z.size) (row := z.toList) (v := z[j % z.size]) (fun r hr => by rw [(List.mem_replicate.1 hr).2]; simp) (by simp [hq]) (by simp [hr])
    rw [show j / z.size * z.size + j % z.size = j from by rw [Nat.mul_comm]; exact Nat.div_add_mod _ _] at this
    rw [this]
    simp [hj, hr]
  · have h2 : ((List.replicate m z.toList).flatten).length = m * z.size := by rw [flat_len (s := z.size) (fun r hr => by rw [(List.mem_replicate.1 hr).2]; simp)]; simp
    rw [List.getElem?_eq_none (by simp; omega), List.getElem?_eq_none (by omega)]

theorem WL.clearB (i : Nat) {x : Operand} {t : TypeId} {o m q : Nat} {cells l1 old l2 : List Value} {z : Value} (ht : c.P.underlying t = some (.slice e)) (hz : ty? c.P e = some ⟨xd, xs, s, nb, hp, al, fa, some z, cm, ms⟩) (hzs : z.cells.size = s) (hs0 : 0 < s) (hz1 : z.cells.toList.all (·.oneCell') = true)
    (hx : ev env x = some (.slice (some ⟨g, o, none⟩) m q)) (hb : nth cs i = some (blk g (.cells cells.toArray e (0, 0)), r)) (hc : cells = l1 ++ old ++ l2) (ho : o = l1.length) (hl : old.length = m * s) (hg : gd ops env gu = some true)
    (h : WL c ops Q rest env (blk g (.cells (l1 ++ (List.replicate m z.cells.toList).flatten ++ l2).toArray e (0, 0)) :: r)) : WL c ops Q (⟨none, .call ⟨.builtin .clear, #[x], #[t]⟩, ty, pos, af, gu⟩ :: rest) env cs :=
  WL.run0 hg rfl fun a w ha hw => by
    subst hc
    have hw' := hw.nth hb
    have hbk := hw.blk_heap hb
    have hzl : z.cells.toList.length = s := by simpa using hzs
    have hnl : (List.replicate m z.cells.toList).flatten.length = m * s := by rw [flat_len (s := s) (fun r hr => by rw [(List.mem_replicate.1 hr).2]; exact hzl)]; simp
    by_cases hm : m = 0
    · subst hm
      obtain rfl : old = [] := List.eq_nil_of_length_eq_zero (by simpa using hl)
      refine ⟨w, _, .inr ⟨.tuple #[], ?_⟩, by simpa using hw', h⟩
      simp only [execOp, resolve, invoke, builtin, List.map_toArray, List.map_cons, List.map_nil, ha.eval hx, Sem.run_bind, Sem.run_pure, Result.andThen_ok, Builtin.clear_, List.getElem?_toArray, List.getElem?_cons_zero, run_und ht]
    · obtain ⟨w', e2, g1, g2, g3, g4, g5, g6⟩ := run_storeCells (P := c.P) (List.replicate m z.cells.toList).flatten 0 o w l1 old l2 hbk (by omega) (by omega) (fun v hv => by
        simp only [List.mem_flatten, List.mem_replicate] at hv
        obtain ⟨l, ⟨_, rfl⟩, hv⟩ := hv
        exact (List.all_eq_true.1 hz1) v hv)
      refine ⟨w', _, .inr ⟨.tuple #[], ?_⟩, hw'.setBlk g1 g2 g3 g4 g5 g6, h⟩
      obtain ⟨m', rfl⟩ : ∃ m', m = m' + 1 := ⟨m - 1, by omega⟩
      simp only [execOp, resolve, invoke, builtin, List.map_toArray, List.map_cons, List.map_nil, ha.eval hx, Sem.run_bind, Sem.run_pure, Result.andThen_ok, Builtin.clear_, List.getElem?_toArray, List.getElem?_cons_zero, run_und ht, run_zero hz, toList_zero _ _ (by omega : 0 < z.cells.size), e2]

/-- append within the capacity, from wherever. -/
theorem WL.appendFit (i : Nat) {d : Nat} {x y : Operand} {t : TypeId} {B : Addr} {k m q : Nat} {cells news l1 old l2 : List Value} (ht : c.P.underlying t = some (.slice e)) (hz : ty? c.P e = some ⟨xd, xs, s, nb, hp, al, fa, zz, cm, ms⟩)
    (hx : ev env x = some (.slice (some ⟨g, 0, none⟩) k cap)) (hy : ev env y = some (.slice (some B) m q)) (hb : nth cs i = some (blk g (.cells cells.toArray e (0, 0)), r)) (hroom : k + m ≤ cap) (hl : news.length = m * s) (h1 : news.all (·.oneCell') = true)
    (hsrc : ∀ w, In c.w0 c.F0 cs w → ∀ j u, news[j]? = some u → w.cell? (B.add j) = some u) (hc : cells = l1 ++ old ++ l2) (ho : k * s = l1.length) (hlen : old.length = news.length) (hg : gd ops env gu = some true) (hn : Nat.blt d c.n = true)
    (h : WL c ops Q rest ((d, .slice (some ⟨g, 0, none⟩) (k + m) cap) :: env) (blk g (.cells (l1 ++ news ++ l2).toArray e (0, 0)) :: r)) : WL c ops Q (⟨some d, .call ⟨.builtin .append, #[x, y], #[t, t]⟩, ty, pos, af, gu⟩ :: rest) env cs :=
  WL.run hg rfl hn fun a w ha hw => by
    subst hc
    have hw' := hw.nth hb
    have hbk := hw.blk_heap hb
    obtain ⟨w', e2, g1, g2, g3, g4, g5, g6⟩ := run_storeCells (P := c.P) news 0 (k * s) w l1 old l2 hbk (by omega) hlen (by simpa using h1)
    have e3 := run_loadCells_list (P := c.P) w B news (hsrc w hw)
    rw [hl] at e3
    refine ⟨_, w', _, ?_, hw'.setBlk g1 g2 g3 g4 g5 g6, h⟩
    simp only [execOp, resolve, invoke, builtin, List.map_toArray, List.map_cons, List.map_nil, ha.eval hx, ha.eval hy, Sem.run_bind, Sem.run_pure, Result.andThen_ok]
    simp [Builtin.append_, run_und ht, run_size hz, Builtin.lenOf, Builtin.firstCells, hroom, add0, e3, e2]
end
/-! ### Results that lie in a variable -/
section
variable {fn : Func} {R : Ending → World → Prop}
theorem run_fin_cell {P : Program} {w : World} {t : TypeId} {fs : List Field} {b : Nat} {vs : List Value} {xd : TypeDesc} {xs : String} {nb : Nat} {hp cm : Bool} {al fa : Nat} {zz : Option Value} {ms : Array Method}
    (hu : P.underlying t = some (.struct fs.toArray)) (hz : ty? P t = some ⟨xd, xs, vs.length, nb, hp, al, fa, zz, cm, ms⟩) (hb : w.heap[b]? = some (.cells vs.toArray e (0, 0))) : (loadVar t ⟨b, 0, none⟩).run P w = .ok (.agg vs.toArray) w :=
  run_loadVarA hu rfl hz fun j v hv => by rw [add0]; simp only [World.cell?, hb, Option.isSome_none, Bool.false_eq_true, if_false, Nat.zero_add, List.getElem?_toArray, hv]
theorem WE.fin2c (i : Nat) {P : Program} {n : Nat} {w0 : World} {F0 : Fp} {t t' : Nat} {ty : TypeId} {v' : Value} {fs : List Field} {b : Nat} {vs : List Value} {xd : TypeDesc} {xs : String} {nb : Nat} {hp cm : Bool} {al fa : Nat} {zz : Option Value} {ms : Array Method}
    (hr : fn.results = #[.cell t ty, .tmp t']) (hv : lk env t = some (.pointer (some ⟨b, 0, none⟩))) (hv' : lk env t' = some v') (hb : nth cs i = some (blk b (.cells vs.toArray e (0, 0)), r)) (hu : P.underlying ty = some (.struct fs.toArray)) (hz : ty? P ty = some ⟨xd, xs, vs.length, nb, hp, al, fa, zz, cm, ms⟩)
    (h : ∀ w, In w0 F0 r w → R (.returned (.tuple #[.agg vs.toArray, v'])) w) : WE ⟨P, n, w0, F0⟩ (bodyPost P fn R) .ret env cs := fun a w ha hw => by
  refine ⟨ha.defers, .tuple #[.agg vs.toArray, v'], ?_, h w (hw.nth hb).tail⟩
  have e1 : a.tmps.getD t undef = .pointer (some ⟨b, 0, none⟩) := ha.eval (x := .tmp t) hv
  have e2 : a.tmps.getD t' undef = v' := ha.eval (x := .tmp t') hv'
  have e3 := run_fin_cell (P := P) (w := w) hu hz (hw.blk_heap hb)
  simp only [results, hr, Sem.run_bind, List.mapM_toArray, List.mapM_cons, List.mapM_nil, Sem.run_map, Sem.run_pure, Result.andThen_ok, e1, e2, asAddr, e3]
  rfl
theorem WE.fin1c (i : Nat) {P : Program} {n : Nat} {w0 : World} {F0 : Fp} {t : Nat} {ty : TypeId} {fs : List Field} {b : Nat} {vs : List Value} {xd : TypeDesc} {xs : String} {nb : Nat} {hp cm : Bool} {al fa : Nat} {zz : Option Value} {ms : Array Method}
    (hr : fn.results = #[.cell t ty]) (hv : lk env t = some (.pointer (some ⟨b, 0, none⟩))) (hb : nth cs i = some (blk b (.cells vs.toArray e (0, 0)), r)) (hu : P.underlying ty = some (.struct fs.toArray)) (hz : ty? P ty = some ⟨xd, xs, vs.length, nb, hp, al, fa, zz, cm, ms⟩)
    (h : ∀ w, In w0 F0 r w → R (.returned (.agg vs.toArray)) w) : WE ⟨P, n, w0, F0⟩ (bodyPost P fn R) .ret env cs := fun a w ha hw => by
  refine ⟨ha.defers, .agg vs.toArray, ?_, h w (hw.nth hb).tail⟩
  have e1 : a.tmps.getD t undef = .pointer (some ⟨b, 0, none⟩) := ha.eval (x := .tmp t) hv
  have e3 := run_fin_cell (P := P) (w := w) hu hz (hw.blk_heap hb)
  simp only [results, hr, Sem.run_bind, List.mapM_toArray, List.mapM_cons, List.mapM_nil, Sem.run_map, Sem.run_pure, Result.andThen_ok, e1, asAddr, e3]
  rfl
end
end
end Go.Sx
