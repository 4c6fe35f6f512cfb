/- Regions that draw their order and hold operations that turn something: what is told by parts that stay is taken first, whatever is left comes up in turn. -/
import Derived.Test.YtkbggjhfiemhoaaSxe
import Derived.OrdersHeld
namespace Go.Sx
set_option linter.unusedVariables false
set_option linter.unusedSimpArgs false

/-- Q says nothing of slots at a panic. -/
def Calm (Q : Exit → Act → World → Prop) : Prop := ∀ ch d v a w, Q (.panic ch) (a.put d v) w → Q (.panic ch) a w
theorem put_defers (a : Act) (d : Option Tmp) (v : Value) : (a.put d v).defers = a.defers := by cases d <;> rfl
theorem Calm.body {P : Program} {fn : Func} {R : Ending → World → Prop} : Calm (bodyPost P fn R) := fun ch d v a w h => ⟨by rw [← put_defers a d v]; exact h.1, h.2⟩
theorem Calm.then {K : Act → World → Prop} {Q : Exit → Act → World → Prop} (h : Calm Q) : Calm (Exit.then K Q) := fun ch d v a w h' => h ch d v a w h'
theorem Calm.block {id : Nat} {Q : Exit → Act → World → Prop} (h : Calm Q) : Calm (Exit.inBlock id Q) := fun ch d v a w h' => h ch d v a w h'

theorem Calm.scope {Q : Exit → Act → World → Prop} (h : Calm Q) : Calm (Exit.noGoto Q) := fun ch d v a w h' => h ch d v a w h'

/-- Whatever order is picked from here on; behind each operation but the last one 'S' holds. -/
def An (P : Program) (ops : Array Oper) (Q : Exit → Act → World → Prop) (S : World → Prop) (last : Nat) : Nat → Array Bool → Act → World → Prop
  | 0, listed, a, w => Region.ready .any ops listed = [] ∧ Q .normal a w
  | k + 1, listed, a, w => (Region.ready .any ops listed = [] → Q .normal a w) ∧
    ∀ i ∈ Region.ready .any ops listed, wpOp P ops Q i (fun a' w' => (i ≠ last → S w') ∧ An P ops Q S last k (listed.setIfInBounds i true) a' w') a w
theorem An.any {P : Program} {ops : Array Oper} {Q : Exit → Act → World → Prop} {S : World → Prop} {last : Nat} : ∀ (k : Nat) (listed : Array Bool) (a : Act) (w : World), An P ops Q S last k listed a w → wpAny P .any ops Q k listed a w
  | 0, _, _, _, h => h
  | k + 1, _, _, _, h => ⟨h.1, fun i hi => wpOp_mono (fun a' w' h' => An.any k _ a' w' h'.2) (h.2 i hi)⟩
/-- The last operation waits for this one. -/
def waits (ops : Array Oper) (last i : Nat) : Bool := last != i && ((ops[last]?).map (·.after.any fun e => Region.binds .any e && e.on == i)).getD false
theorem not_ready {ops : Array Oper} {listed : Array Bool} {last i : Nat} (hw : waits ops last i = true) (hi : listed.getD i true = false) : last ∉ Region.ready .any ops listed := by
  intro h
  obtain ⟨_, o, ho, hall⟩ := mem_ready.1 h
  unfold waits at hw
  rw [ho] at hw
  simp only [Option.map_some, Option.getD_some, Bool.and_eq_true, Array.any_eq_true'] at hw
  obtain ⟨_, e, he, hb⟩ := hw
  simp only [Bool.and_eq_true, beq_iff_eq] at hb
  have h1 := hall e he hb.1
  rw [hb.2] at h1
  rcases Nat.lt_or_ge i listed.size with hlt | hge
  · simp [hlt] at hi h1
    rw [hi] at h1; cases h1
  · simp [Array.getElem?_eq_none hge] at h1
theorem An.first {P : Program} {ops : Array Oper} {Q : Exit → Act → World → Prop} {S : World → Prop} {last i : Nat} {oi : Oper} {v : Value} (hi : ops[i]? = some oi) (hsel : ∀ (j : Nat) (o : Oper) cs b, ops[j]? = some o → o.op ≠ .select cs b)
    (hQ : ∀ c a w, Q (.panic c) (a.put oi.dst v) w → Q (.panic c) a w) (hwt : waits ops last i = true) :
    ∀ (k : Nat) (listed : Array Bool) (a : Act) (w : World), (∀ j oj, ops[j]? = some oj → j ≠ i → listed.getD j true = false → (∀ e ∈ oj.after, Region.binds .any e = true → e.on ≠ i) → oi.apart ops oj = true) →
      i ∈ Region.ready .any ops listed → YieldsIf P ops S oi v a → S w → An P ops Q S last k (listed.setIfInBounds i true) (a.put oi.dst v) w → An P ops Q S last (k + 1) listed a w := by
  intro k
  induction k with
  | zero =>
    intro listed a w _ hr hy hS H
    refine ⟨fun h => absurd (h ▸ hr) (by simp), fun j hj => ?_⟩
    by_cases hji : j = i
    · subst hji; exact hy.wpOp hi hS ⟨fun _ => hS, H⟩
    · have h0 := ready_mono hj hji
      rw [H.1] at h0
      exact absurd h0 (by simp)
  | succ k ih =>
    intro listed a w hfree hr hy hS H
    have hun := (mem_ready.1 hr).1
    refine ⟨fun h => absurd (h ▸ hr) (by simp), fun j hj => ?_⟩
    by_cases hji : j = i
    · subst hji; exact hy.wpOp hi hS ⟨fun _ => hS, H⟩
    · have hjl : j ≠ last := fun e => not_ready hwt hun (e ▸ hj)
      obtain ⟨hjun, oj, hoj, hall⟩ := mem_ready.1 hj
      have hnot : ∀ e ∈ oj.after, Region.binds .any e = true → e.on ≠ i := fun e he hb heq => by
        have h1 := hall e he hb
        rw [heq] at h1
        rcases Nat.lt_or_ge i listed.size with hlt | hge
        · simp [hlt] at hun h1
          rw [hun] at h1; cases h1
        · simp [Array.getElem?_eq_none hge] at h1
      have h2 := wpOp_putIf hoj (hfree j oj hoj hji hjun hnot) (fun cs b => hsel i oi cs b hi) (fun cs b => hsel j oj cs b hoj) hQ hy (H.2 j (ready_mono hj hji))
      refine wpOp_mono (fun a' w' h3 => ⟨fun _ => h3.2.1 hjl, ih (listed.setIfInBounds j true) a' w' (fun m om hm hmi hmun hmno => ?_) (ready_mono hr (Ne.symm hji)) h3.1 (h3.2.1 hjl) ?_⟩) h2
      · refine hfree m om hm hmi ?_ hmno
        by_cases hjm : j = m
        · subst hjm; exact hjun
        · rwa [getD_set_ne true hjm] at hmun
      · rw [Array.setIfInBounds_comm _ _ hji]
        exact h3.2.2

def WH (c : Cx) (ops : Array Oper) (Q : Exit → Act → World → Prop) (S : List Ch) (last fuel : Nat) (listed : Array Bool) (env : Env) (cs : List Ch) : Prop :=
  ∀ a w, Ag c.n env a → In c.w0 c.F0 cs w → In c.w0 c.F0 S w → An c.P ops Q (In c.w0 c.F0 S) last fuel listed a w
/-- What follows one operation of such a region. -/
def Hk (c : Cx) (ops : Array Oper) (Q : Exit → Act → World → Prop) (S : List Ch) (last fuel : Nat) (listed : Array Bool) (a : Act) (w : World) : Prop :=
  In c.w0 c.F0 S w ∧ An c.P ops Q (In c.w0 c.F0 S) last fuel listed a w
/-- What follows the last operation. -/
def Hl (c : Cx) (ops : Array Oper) (Q : Exit → Act → World → Prop) (S : List Ch) (last fuel : Nat) (listed : Array Bool) (a : Act) (w : World) : Prop :=
  An c.P ops Q (In c.w0 c.F0 S) last fuel listed a w

section
variable {c : Cx} {Q : Exit → Act → World → Prop} {env : Env} {cs S : List Ch} {ops : Array Oper} {r : List Code} {last fuel : Nat} {listed : Array Bool}
theorem WS.held (S : List Ch) (is : List Nat) (last : Nat) {id n : Nat} {l : List Oper} (hm : c.P.follows .mixedOrders = true) (hS : pick cs is = some S) (hn : l.length = n)
    (h : WH c l.toArray (Exit.then (sq c.P Q r) Q) S last n (Array.replicate n false) env cs) : WS c Q (.region id l.toArray true :: r) env cs := fun a w ha hw => by
  subst hn
  have hw1 := hw.keep (Keep.drew Fp.no w)
  have := h a _ ha hw1 (hw1.pick hS)
  exact wp_region_any hm (An.any _ _ _ _ (by simpa using this))
theorem WH.take (i : Nat) {o : Oper} {v : Value} {d : Nat} (hQ : Calm Q) (hi : ops[i]? = some o) (hs : Region.noSelect ops = true) (hf : Region.free .any ops listed i = true) (hr : (Region.ready .any ops listed).contains i = true) (hwt : waits ops last i = true)
    (h : OpR c env S o v) (hg : gd ops env o.guard = some true) (hd : o.dst = some d) (hn : Nat.blt d c.n = true)
    (next : WH c ops Q S last fuel (listed.setIfInBounds i true) ((d, v) :: env) cs) : WH c ops Q S last (fuel + 1) listed env cs := fun a w ha hw hS =>
  An.first hi (Region.noSelect_spec hs) (fun ch a w => hQ ch _ _ a w) hwt fuel listed a w (Region.free_spec hi hf) (by simpa using hr) (.inl ⟨gd_wanted ha hg, fun w' hw' => h a w' ha hw'⟩) hS (next _ w (hd ▸ ha.put hn v) hw hS)
theorem WH.pass (i : Nat) {o : Oper} {d : Nat} (hQ : Calm Q) (hi : ops[i]? = some o) (hs : Region.noSelect ops = true) (hf : Region.free .any ops listed i = true) (hr : (Region.ready .any ops listed).contains i = true) (hwt : waits ops last i = true)
    (hg : gd ops env o.guard = some false) (hd : o.dst = some d) (hn : Nat.blt d c.n = true)
    (next : WH c ops Q S last fuel (listed.setIfInBounds i true) ((d, undef) :: env) cs) : WH c ops Q S last (fuel + 1) listed env cs := fun a w ha hw hS =>
  An.first hi (Region.noSelect_spec hs) (fun ch a w => hQ ch _ _ a w) hwt fuel listed a w (Region.free_spec hi hf) (by simpa using hr) (.inr ⟨gd_wanted ha hg, rfl⟩) hS (next _ w (hd ▸ ha.put hn _) hw hS)
/-- One operation alone may come up. -/
theorem WH.one (i : Nat) {o : Oper} (hi : ops[i]? = some o) (hr : Region.ready .any ops listed = [i])
    (h : WL c ops (Exit.then (Hk c ops Q S last fuel (listed.setIfInBounds i true)) Q) [o] env cs) : WH c ops Q S last (fuel + 1) listed env cs := fun a w ha hw hS =>
  ⟨fun h => absurd (hr ▸ h) (by simp), fun j hj => by
    rw [hr] at hj
    have : j = i := by simpa using hj
    subst this
    refine wpOp_mono (K := Hk c ops Q S last fuel (listed.setIfInBounds j true)) (fun a' w' h => ⟨fun _ => h.1, h.2⟩) ?_
    have h' := h a w ha hw
    unfold wpOp
    simp only [hi]
    simp only [wpList] at h'
    by_cases hwt : Region.wanted o (yielded ops a.tmps) = true
    · rw [if_pos hwt] at h' ⊢
      rcases h' with h' | ⟨h', hl⟩
      · left
        revert h'
        unfold Oper.wp Oper.upon
        split <;> (intro h'; exact h')
      · exact .inr ⟨h', hl⟩
    · rw [if_neg hwt] at h' ⊢
      exact h'⟩
/-- The last operation. -/
theorem WH.fin {o : Oper} (hi : ops[last]? = some o) (hr : Region.ready .any ops listed = [last])
    (h : WL c ops (Exit.then (Hl c ops Q S last fuel (listed.setIfInBounds last true)) Q) [o] env cs) : WH c ops Q S last (fuel + 1) listed env cs := fun a w ha hw hS =>
  ⟨fun h => absurd (hr ▸ h) (by simp), fun j hj => by
    rw [hr] at hj
    have : j = last := by simpa using hj
    subst this
    refine wpOp_mono (K := Hl c ops Q S j fuel (listed.setIfInBounds j true)) (fun a' w' h => ⟨fun hne => absurd rfl hne, h⟩) ?_
    have h' := h a w ha hw
    unfold wpOp
    simp only [hi]
    simp only [wpList] at h'
    by_cases hwt : Region.wanted o (yielded ops a.tmps) = true
    · rw [if_pos hwt] at h' ⊢
      rcases h' with h' | ⟨h', hl⟩
      · left
        revert h'
        unfold Oper.wp Oper.upon
        split <;> (intro h'; exact h')
      · exact .inr ⟨h', hl⟩
    · rw [if_neg hwt] at h' ⊢
      exact h'⟩
theorem WL.held (is : List Nat) (hS : pick cs is = some S) (h : WH c ops Q S last fuel listed env cs) : WL c ops (Exit.then (Hk c ops Q S last fuel listed) Q) [] env cs := fun a w ha hw => by
  have hs := hw.pick hS
  exact ⟨hs, h a w ha hw hs⟩
/-- All have come up. -/
theorem WL.heldEnd (hr : Region.ready .any ops listed = []) (h : WS c Q r env cs) : WL c ops (Exit.then (Hl c ops (Exit.then (sq c.P Q r) Q) S last fuel listed) (Exit.then (sq c.P Q r) Q)) [] env cs := fun a w ha hw => by
  show An _ _ _ _ _ _ _ _ _
  cases fuel with
  | zero => exact ⟨hr, h a w ha hw⟩
  | succ k => exact ⟨fun _ => h a w ha hw, by rw [hr]; simp⟩
theorem WH.split {o : Oper} {i : Nat} {b : Bool} (_h : ops[i]? = some o) (_h : gb ops env o.guard = some b) (ht : b = true → WH c ops Q S last fuel listed env cs) (hf : b = false → WH c ops Q S last fuel listed env cs) : WH c ops Q S last fuel listed env cs := by
  cases b
  · exact hf rfl
  · exact ht rfl
end
end Go.Sx
