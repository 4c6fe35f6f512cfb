/- The walk's rules: codes, regions, operations. -/
import Derived.Test.YtkbggjhfiemhoaaSxa
import Derived.WalkKit
import Derived.Deep.LoopGhost
import Derived.StillTail
import Derived.Scope
import Derived.WalkMore
namespace Go.Sx
set_option linter.unusedVariables false
set_option linter.unusedSimpArgs false

/-- What a walk through one call holds fast: the program, the frame's slots, the world at first, the blocks that may be written. -/
structure Cx where
  P : Program
  n : Nat
  w0 : World
  F0 : Fp

def sq (P : Program) (Q : Exit → Act → World → Prop) : List Code → Act → World → Prop
  | [], a, w => Q .normal a w
  | x :: r, a, w => x.wp P (Exit.then (sq P Q r) Q) a w

def WL (c : Cx) (ops : Array Oper) (Q : Exit → Act → World → Prop) (rest : List Oper) (env : Env) (cs : List Ch) : Prop :=
  ∀ a w, Ag c.n env a → In c.w0 c.F0 cs w → wpList c.P ops Q rest a w
def WS (c : Cx) (Q : Exit → Act → World → Prop) (l : List Code) (env : Env) (cs : List Ch) : Prop :=
  ∀ a w, Ag c.n env a → In c.w0 c.F0 cs w → sq c.P Q l a w
def WE (c : Cx) (Q : Exit → Act → World → Prop) (e : Exit) (env : Env) (cs : List Ch) : Prop :=
  ∀ a w, Ag c.n env a → In c.w0 c.F0 cs w → Q e a w
/-- In a region that draws its order: the parts stay, each operation has one value. -/
def WQ (c : Cx) (ops : Array Oper) (T : Act → World → Prop) (rest : List Oper) (env : Env) (cs : List Ch) : Prop :=
  ∀ a, Ag c.n env a → wpQuiet c.P ops (In c.w0 c.F0 cs) (fun a' => ∀ w', In c.w0 c.F0 cs w' → T a' w') rest a

section
variable {c : Cx} {Q : Exit → Act → World → Prop} {env : Env} {cs : List Ch} {ops : Array Oper} {r : List Code} {rest : List Oper}

/-! ### Codes -/
theorem WS.nil (h : WE c Q .normal env cs) : WS c Q [] env cs := h
theorem WS.seq {x y : Code} (h : WS c Q (x :: y :: r) env cs) : WS c Q (.seq x y :: r) env cs := fun a w ha hw => by
  refine wp_seq (wp_mono (h a w ha hw) ?_)
  intro e a w hq
  cases e <;> exact hq
theorem WS.skip (h : WS c Q r env cs) : WS c Q (.skip :: r) env cs := fun a w ha hw => wp_skip (h a w ha hw)
theorem WS.label {l : Nat} (h : WS c Q r env cs) : WS c Q (.label l :: r) env cs := fun a w ha hw => wp_label (h a w ha hw)
theorem WS.exit {id : Nat} (h : WE c Q (.exit id) env cs) : WS c Q (.exit id :: r) env cs := fun a w ha hw => wp_exit (h a w ha hw)
theorem WS.goto {id : Nat} (h : WE c Q (.goto id) env cs) : WS c Q (.goto id :: r) env cs := fun a w ha hw => wp_goto (h a w ha hw)
theorem WS.ret (h : WE c Q .ret env cs) : WS c Q (.ret :: r) env cs := fun a w ha hw => wp_ret (h a w ha hw)
theorem WS.cond {x : Operand} {t e : Code} {b : Bool} (hx : ev env x = some (.bool b)) (ht : b = true → WS c Q (t :: r) env cs) (hf : b = false → WS c Q (e :: r) env cs) :
    WS c Q (.cond x t e :: r) env cs := fun a w ha hw =>
  wp_cond_split (ha.eval hx) (fun hb => ht hb a w ha hw) (fun hb => hf hb a w ha hw)
theorem WS.cond_t {x : Operand} {t e : Code} (hx : ev env x = some (.bool true)) (ht : WS c Q (t :: r) env cs) : WS c Q (.cond x t e :: r) env cs := fun a w ha hw =>
  wp_cond_true (ha.eval hx) (ht a w ha hw)
theorem WS.cond_f {x : Operand} {t e : Code} (hx : ev env x = some (.bool false)) (hf : WS c Q (e :: r) env cs) : WS c Q (.cond x t e :: r) env cs := fun a w ha hw =>
  wp_cond_false (ha.eval hx) (hf a w ha hw)
theorem WS.block {id : Nat} {x : Code} (h : WS c (Exit.inBlock id (Exit.then (sq c.P Q r) Q)) [x] env cs) : WS c Q (.block id x :: r) env cs := fun a w ha hw => by
  refine wp_block (wp_mono (h a w ha hw) ?_)
  intro e a w hq
  cases e <;> exact hq
theorem WS.scope {x : Code} (h : WS c (Exit.noGoto (Exit.then (sq c.P Q r) Q)) [x] env cs) : WS c Q (.scope x :: r) env cs := fun a w ha hw => by
  refine wp_scope_straight (wp_mono (h a w ha hw) ?_)
  intro e a w hq
  cases e <;> exact hq
theorem WS.region {id : Nat} {l : List Oper} (h : WL c l.toArray (Exit.then (sq c.P Q r) Q) l env cs) : WS c Q (.region id l.toArray false :: r) env cs := fun a w ha hw =>
  wp_region_lit (h a w ha hw)
theorem WL.nil (h : WS c Q r env cs) : WL c ops (Exit.then (sq c.P Q r) Q) [] env cs := fun a w ha hw => wpList_nil (h a w ha hw)
theorem WS.draw {id : Nat} {l : List Oper} (hm : c.P.follows .mixedOrders = true) (hB : Region.lexB .any l.toArray = true) (h : WQ c l.toArray (sq c.P Q r) l env cs) :
    WS c Q (.region id l.toArray true :: r) env cs := fun a w ha hw =>
  wp_region_quiet (C := In c.w0 c.F0 cs) hm hB (hw.keep (Keep.drew _ _)) (h a ha)
theorem WQ.nil (h : WS c Q r env cs) : WQ c ops (sq c.P Q r) [] env cs := fun a ha => wpQuiet_nil (fun w' hw' => h a w' ha hw')

/-! ### Ends -/
theorem WE.then_normal (h : WS c Q r env cs) : WE c (Exit.then (sq c.P Q r) Q) .normal env cs := h
theorem WE.then_exit {id : Nat} (h : WE c Q (.exit id) env cs) : WE c (Exit.then (sq c.P Q r) Q) (.exit id) env cs := h
theorem WE.then_goto {id : Nat} (h : WE c Q (.goto id) env cs) : WE c (Exit.then (sq c.P Q r) Q) (.goto id) env cs := h
theorem WE.then_ret (h : WE c Q .ret env cs) : WE c (Exit.then (sq c.P Q r) Q) .ret env cs := h
theorem WE.block_normal {id : Nat} (h : WE c Q .normal env cs) : WE c (Exit.inBlock id Q) .normal env cs := h
theorem WE.block_ret {id : Nat} (h : WE c Q .ret env cs) : WE c (Exit.inBlock id Q) .ret env cs := h
theorem WE.block_goto {id l : Nat} (h : WE c Q (.goto l) env cs) : WE c (Exit.inBlock id Q) (.goto l) env cs := h
theorem WE.scope_normal (h : WE c Q .normal env cs) : WE c (Exit.noGoto Q) .normal env cs := h
theorem WE.scope_ret (h : WE c Q .ret env cs) : WE c (Exit.noGoto Q) .ret env cs := h
theorem WE.scope_exit {id : Nat} (h : WE c Q (.exit id) env cs) : WE c (Exit.noGoto Q) (.exit id) env cs := h
theorem WE.block_hit {id : Nat} (h : WE c Q .normal env cs) : WE c (Exit.inBlock id Q) (.exit id) env cs := fun a w ha hw => by
  show if id = id then _ else _
  rw [if_pos rfl]
  exact h a w ha hw
theorem WE.block_miss {id j : Nat} (hj : Nat.beq j id = false) (h : WE c Q (.exit j) env cs) : WE c (Exit.inBlock id Q) (.exit j) env cs := fun a w ha hw => by
  have hne : j ≠ id := fun e => by subst e; simp [Nat.beq_refl] at hj
  show if j = id then _ else _
  rw [if_neg hne]
  exact h a w ha hw

/-! ### A loop: at each round's head some x with 'φ x' tells the frame and the parts -/
def Lp {α : Type} (c : Cx) (φ : α → Prop) (E : α → Env) (H : α → List Ch) (μ : α → Nat) (m : Nat) (a : Act) (w : World) : Prop :=
  ∃ x, φ x ∧ μ x < m ∧ Ag c.n (E x) a ∧ In c.w0 c.F0 (H x) w

theorem WS.loop {α : Type} (φ : α → Prop) (E : α → Env) (H : α → List Ch) (μ : α → Nat) (x0 : α) {body : Code} (h0 : φ x0) (is : List Nat) (hE : Sub (E x0) env) (hH : pick cs is = some (H x0))
    (round : ∀ x, φ x → WS c (Exit.then (Lp c φ E H μ (μ x)) (Exit.then (sq c.P Q r) Q)) [body] (E x) (H x)) : WS c Q (.loop body :: r) env cs := fun a w ha hw => by
  refine wp_loop_ghost (fun m a w => ∃ x, φ x ∧ μ x = m ∧ Ag c.n (E x) a ∧ In c.w0 c.F0 (H x) w) (μ x0) ⟨x0, h0, rfl, ha.sub hE, hw.pick hH⟩ ?_
  rintro m a w ⟨x, hx, rfl, ha, hw⟩
  refine wp_mono (round x hx a w ha hw) ?_
  intro e a' w' hq
  cases e with
  | normal => obtain ⟨y, hy, hm, h1, h2⟩ := hq; exact ⟨μ y, hm, y, hy, rfl, h1, h2⟩
  | _ => exact hq
theorem WE.round {α : Type} {φ : α → Prop} {E : α → Env} {H : α → List Ch} {μ : α → Nat} {m : Nat} {Q' : Exit → Act → World → Prop} (y : α) (hy : φ y) (hm : μ y < m) (is : List Nat) (hE : Sub (E y) env) (hH : pick cs is = some (H y)) :
    WE c (Exit.then (Lp c φ E H μ m) Q') .normal env cs := fun a w ha hw => ⟨y, hy, hm, ha.sub hE, hw.pick hH⟩
theorem WE.loop_exit {L : Act → World → Prop} {id : Nat} (h : WE c Q (.exit id) env cs) : WE c (Exit.then L Q) (.exit id) env cs := h
theorem WE.loop_goto {L : Act → World → Prop} {id : Nat} (h : WE c Q (.goto id) env cs) : WE c (Exit.then L Q) (.goto id) env cs := h
theorem WE.loop_ret {L : Act → World → Prop} (h : WE c Q .ret env cs) : WE c (Exit.then L Q) .ret env cs := h

/-! ### Less is known -/
theorem WS.less {E : Env} (is : List Nat) {H : List Ch} (h : WS c Q r E H) (hE : Sub E env) (hH : pick cs is = some H) : WS c Q r env cs := fun a w ha hw => h a w (ha.sub hE) (hw.pick hH)
theorem WE.less {E : Env} {e : Exit} (is : List Nat) {H : List Ch} (h : WE c Q e E H) (hE : Sub E env) (hH : pick cs is = some H) : WE c Q e env cs := fun a w ha hw => h a w (ha.sub hE) (hw.pick hH)
theorem WL.parts (is : List Nat) {H : List Ch} (hH : pick cs is = some H) (h : WL c ops Q rest env H) : WL c ops Q rest env cs := fun a w ha hw => h a w ha (hw.pick hH)
theorem WS.parts (is : List Nat) {H : List Ch} (hH : pick cs is = some H) (h : WS c Q r env H) : WS c Q r env cs := fun a w ha hw => h a w ha (hw.pick hH)
theorem WE.parts {e : Exit} (is : List Nat) {H : List Ch} (hH : pick cs is = some H) (h : WE c Q e env H) : WE c Q e env cs := fun a w ha hw => h a w ha (hw.pick hH)
/-- What the parts tell. -/
theorem WL.tell {p : Prop} (hp : ∀ w, In c.w0 c.F0 cs w → p) (h : p → WL c ops Q rest env cs) : WL c ops Q rest env cs := fun a w ha hw => h (hp w hw) a w ha hw
theorem WS.tell {p : Prop} (hp : ∀ w, In c.w0 c.F0 cs w → p) (h : p → WS c Q r env cs) : WS c Q r env cs := fun a w ha hw => h (hp w hw) a w ha hw
theorem WE.tell {p : Prop} {e : Exit} (hp : ∀ w, In c.w0 c.F0 cs w → p) (h : p → WE c Q e env cs) : WE c Q e env cs := fun a w ha hw => h (hp w hw) a w ha hw

/-! ### One operation -/
def OpQ (c : Cx) (env : Env) (cs : List Ch) (o : Oper) (v : Value) : Prop := ∀ a w, Ag c.n env a → In c.w0 c.F0 cs w → o.quietAt c.P a (In c.w0 c.F0 cs) w v

/-- An operation that is no call of a Go function, and turns nothing. -/
def OpR (c : Cx) (env : Env) (cs : List Ch) (o : Oper) (v : Value) : Prop := ∀ a w, Ag c.n env a → In c.w0 c.F0 cs w → (execOp a.eval o).run c.P w = .ok (.value v) w
theorem OpR.of_run {o : Oper} {v : Value} (h : ∀ a w, Ag c.n env a → In c.w0 c.F0 cs w → (execOp a.eval o).run c.P w = .ok (.value v) w) : OpR c env cs o v := h
theorem OpR.q {o : Oper} {v : Value} (h : OpR c env cs o v) : OpQ c env cs o v := fun a w ha hw => by
  simp only [Oper.quietAt, h a w ha hw, Oper.quietUpon, and_self]

/-- What a guard says: 'some true': go; 'some false': pass over. -/
def gd (ops : Array Oper) (env : Env) : Option (Nat × Bool) → Option Bool
  | none => some true
  | some (j, want) => match (ops[j]?).bind (·.dst) with
    | none => none
    | some t => match lk env t with
      | some (.bool b) => some (b == want)
      | some (.tuple _) => some false
      | _ => none

theorem gd_wanted {ops : Array Oper} {a : Act} {o : Oper} {b : Bool} (ha : Ag c.n env a) (h : gd ops env o.guard = some b) : Region.wanted o (yielded ops a.tmps) = b := by
  unfold Region.wanted
  cases hg : o.guard with
  | none => rw [hg] at h; simp only [gd, Option.some.injEq] at h; exact h
  | some p =>
    obtain ⟨j, want⟩ := p
    rw [hg] at h
    simp only [gd] at h
    simp only [yielded]
    cases hd : (ops[j]?).bind (·.dst) with
    | none => rw [hd] at h; cases h
    | some t =>
      rw [hd] at h
      simp only at h
      simp only [Option.bind_some]
      cases hl : lk env t with
      | none => rw [hl] at h; cases h
      | some v =>
        rw [hl] at h
        rw [ha.at_ t v hl]
        cases v with
        | bool b' =>
          simp only [Option.some.injEq] at h
          subst h
          cases b' <;> cases want <;> rfl
        | tuple vs => simp only [Option.some.injEq] at h; subst h; rfl
        | _ => cases h

theorem WL.q {o : Oper} {v : Value} (h : OpQ c env cs o v) (hg : gd ops env o.guard = some true) {d : Nat} (hd : o.dst = some d) (hn : Nat.blt d c.n = true)
    (next : WL c ops Q rest ((d, v) :: env) cs) : WL c ops Q (o :: rest) env cs := fun a w ha hw => by
  refine wpList_step fun K hK => ?_
  rw [gd_wanted ha hg, if_pos rfl]
  refine Oper.wp_of_quiet (C := In c.w0 c.F0 cs) (K := fun a' => a' = a.put o.dst v) hw (fun a' w' hw' he => ?_) ⟨v, fun w' hw' => h a w' ha hw', rfl⟩
  subst he
  exact hK _ _ (next _ w' (hd ▸ ha.put hn v) hw')
theorem WL.q0 {o : Oper} {v : Value} (h : OpQ c env cs o v) (hg : gd ops env o.guard = some true) (hd : o.dst = none)
    (next : WL c ops Q rest env cs) : WL c ops Q (o :: rest) env cs := fun a w ha hw => by
  refine wpList_step fun K hK => ?_
  rw [gd_wanted ha hg, if_pos rfl]
  refine Oper.wp_of_quiet (C := In c.w0 c.F0 cs) (K := fun a' => a' = a.put o.dst v) hw (fun a' w' hw' he => ?_) ⟨v, fun w' hw' => h a w' ha hw', rfl⟩
  subst he
  exact hK _ _ (next _ w' (by rw [hd]; exact ha) hw')
/-- The Bool at which a guard looks. -/
def gb (ops : Array Oper) (env : Env) : Option (Nat × Bool) → Option Bool
  | none => none
  | some (j, _) => match (ops[j]?).bind (·.dst) with
    | none => none
    | some t => match lk env t with
      | some (.bool b) => some b
      | _ => none
theorem WL.split {o : Oper} {b : Bool} (_h : gb ops env o.guard = some b) (ht : b = true → WL c ops Q (o :: rest) env cs) (hf : b = false → WL c ops Q (o :: rest) env cs) : WL c ops Q (o :: rest) env cs := by
  cases b
  · exact hf rfl
  · exact ht rfl
theorem WQ.split {T : Act → World → Prop} {o : Oper} {b : Bool} (_h : gb ops env o.guard = some b) (ht : b = true → WQ c ops T (o :: rest) env cs) (hf : b = false → WQ c ops T (o :: rest) env cs) : WQ c ops T (o :: rest) env cs := by
  cases b
  · exact hf rfl
  · exact ht rfl
theorem WL.pass {o : Oper} (hg : gd ops env o.guard = some false) {d : Nat} (hd : o.dst = some d) (hn : Nat.blt d c.n = true)
    (next : WL c ops Q rest ((d, undef) :: env) cs) : WL c ops Q (o :: rest) env cs := fun a w ha hw => by
  refine wpList_step fun K hK => ?_
  rw [gd_wanted ha hg, if_neg (by simp)]
  exact hK _ _ (next _ w (hd ▸ ha.put hn _) hw)
theorem WL.pass0 {o : Oper} (hg : gd ops env o.guard = some false) (hd : o.dst = none)
    (next : WL c ops Q rest env cs) : WL c ops Q (o :: rest) env cs := fun a w ha hw => by
  refine wpList_step fun K hK => ?_
  rw [gd_wanted ha hg, if_neg (by simp)]
  exact hK _ _ (next _ w (by rw [hd]; exact ha) hw)
theorem WQ.q {T : Act → World → Prop} {o : Oper} {v : Value} (h : OpQ c env cs o v) (hg : gd ops env o.guard = some true) {d : Nat} (hd : o.dst = some d) (hn : Nat.blt d c.n = true)
    (next : WQ c ops T rest ((d, v) :: env) cs) : WQ c ops T (o :: rest) env cs := fun a ha => by
  show if _ then _ else _
  rw [gd_wanted ha hg, if_pos rfl]
  exact ⟨v, fun w hw => h a w ha hw, next _ (hd ▸ ha.put hn v)⟩
theorem WQ.pass {T : Act → World → Prop} {o : Oper} (hg : gd ops env o.guard = some false) {d : Nat} (hd : o.dst = some d) (hn : Nat.blt d c.n = true)
    (next : WQ c ops T rest ((d, undef) :: env) cs) : WQ c ops T (o :: rest) env cs := fun a ha => by
  show if _ then _ else _
  rw [gd_wanted ha hg, if_neg (by simp)]
  exact next _ (hd ▸ ha.put hn _)
theorem WL.rr {o : Oper} {v : Value} (h : OpR c env cs o v) (hg : gd ops env o.guard = some true) {d : Nat} (hd : o.dst = some d) (hn : Nat.blt d c.n = true)
    (next : WL c ops Q rest ((d, v) :: env) cs) : WL c ops Q (o :: rest) env cs := WL.q h.q hg hd hn next
theorem WQ.rr {T : Act → World → Prop} {o : Oper} {v : Value} (h : OpR c env cs o v) (hg : gd ops env o.guard = some true) {d : Nat} (hd : o.dst = some d) (hn : Nat.blt d c.n = true)
    (next : WQ c ops T rest ((d, v) :: env) cs) : WQ c ops T (o :: rest) env cs := WQ.q h.q hg hd hn next

/-! ### A region that draws, whose last operations come last in every order -/
def WT (c : Cx) (ops : Array Oper) (T : Act → World → Prop) (rest : List Oper) (env : Env) (cs : List Ch) : Prop :=
  ∀ a w, Ag c.n env a → In c.w0 c.F0 cs w → wpStill c.P ops w (fun a' => T a' w) rest a
theorem WT.rr {T : Act → World → Prop} {o : Oper} {v : Value} (h : OpR c env cs o v) (hg : gd ops env o.guard = some true) {d : Nat} (hd : o.dst = some d) (hn : Nat.blt d c.n = true)
    (next : WT c ops T rest ((d, v) :: env) cs) : WT c ops T (o :: rest) env cs := fun a w ha hw => by
  show if _ then _ else _
  rw [gd_wanted ha hg, if_pos rfl]
  show Oper.stillUpon _ _ _ _ _ _
  rw [h a w ha hw]
  exact ⟨rfl, next _ _ (hd ▸ ha.put hn v) hw⟩
theorem WT.pass {T : Act → World → Prop} {o : Oper} (hg : gd ops env o.guard = some false) {d : Nat} (hd : o.dst = some d) (hn : Nat.blt d c.n = true)
    (next : WT c ops T rest ((d, undef) :: env) cs) : WT c ops T (o :: rest) env cs := fun a w ha hw => by
  show if _ then _ else _
  rw [gd_wanted ha hg, if_neg (by simp)]
  exact next _ _ (hd ▸ ha.put hn _) hw
theorem WT.split {T : Act → World → Prop} {o : Oper} {b : Bool} (_h : gb ops env o.guard = some b) (ht : b = true → WT c ops T (o :: rest) env cs) (hf : b = false → WT c ops T (o :: rest) env cs) : WT c ops T (o :: rest) env cs := by
  cases b
  · exact hf rfl
  · exact ht rfl
theorem WT.nil {l : List Oper} (h : WL c ops Q l env cs) : WT c ops (fun a w => wpList c.P ops Q l a w) [] env cs := fun a w ha hw => wpStill_nil (h a w ha hw)
theorem WS.drawTail (n : Nat) {id : Nat} {l : List Oper} (hm : c.P.follows .mixedOrders = true) (hB : Region.lexTailB .any l.toArray n = true)
    (h : WT c l.toArray (fun a w => wpList c.P l.toArray (Exit.then (sq c.P Q r) Q) (l.drop n) a w) (l.take n) env cs) : WS c Q (.region id l.toArray true :: r) env cs := fun a w ha hw =>
  wp_region_still_tail n hm hB (h a _ ha (hw.keep (Keep.drew _ _)))
end

/-! ### The operations that turn nothing -/
section
variable {c : Cx} {env : Env} {cs : List Ch} {ty : TypeId} {pos : String} {af : Array Edge} {g : Option (Nat × Bool)} {d : Option Tmp}
theorem OpR.move {x : Operand} {v : Value} (h : ev env x = some v) : OpR c env cs ⟨d, .move x, ty, pos, af, g⟩ v := .of_run fun a w ha hw => by
  rw [← ha.eval h]; rfl
theorem OpR.assign {x : Operand} {v : Value} (h : ev env x = some v) : OpR c env cs ⟨d, .assign x, ty, pos, af, g⟩ v := .of_run fun a w ha hw => by
  rw [← ha.eval h]; rfl
theorem OpR.pick {x y z : Operand} {b : Bool} {u v : Value} (hx : ev env x = some (.bool b)) (hy : ev env y = some u) (hz : ev env z = some v) : OpR c env cs ⟨d, .pick x y z, ty, pos, af, g⟩ (if b then u else v) := .of_run fun a w ha hw => by
  simp only [execOp, ha.eval hx, ha.eval hy, ha.eval hz]
  cases b <;> rfl
theorem OpR.pick_t {x y z : Operand} {u : Value} (hx : ev env x = some (.bool true)) (hy : ev env y = some u) : OpR c env cs ⟨d, .pick x y z, ty, pos, af, g⟩ u := .of_run fun a w ha hw => by
  simp only [execOp, ha.eval hx, ha.eval hy]; rfl
theorem OpR.pick_f {x y z : Operand} {v : Value} (hx : ev env x = some (.bool false)) (hz : ev env z = some v) : OpR c env cs ⟨d, .pick x y z, ty, pos, af, g⟩ v := .of_run fun a w ha hw => by
  simp only [execOp, ha.eval hx, ha.eval hz]; rfl
theorem OpR.not {x : Operand} {b : Bool} {t : TypeId} (hx : ev env x = some (.bool b)) : OpR c env cs ⟨d, .unOp .not t x, ty, pos, af, g⟩ (.bool (!b)) := .of_run fun a w ha hw => by
  simp only [execOp, ha.eval hx]; rfl
end
end Go.Sx
