/- The walk's operations that write, or make memory; a call's beginning and end. -/
import Derived.Test.YtkbggjhfiemhoaaSxc
namespace Go.Sx
set_option linter.unusedVariables false
set_option linter.unusedSimpArgs false

/-! ### A call's beginning and end -/
def envOf : Nat → List Value → Env
  | _, [] => []
  | i, v :: r => (i, v) :: envOf (i + 1) r
theorem envOf_lk : ∀ {l : List Value} {i t : Nat} {v : Value}, lk (envOf i l) t = some v → i ≤ t ∧ l[t - i]? = some v := by
  intro l
  induction l with
  | nil => intro i t v h; simp [envOf, lk] at h
  | cons x r ih =>
    intro i t v h
    simp only [envOf, lk] at h
    cases hb : Nat.beq i t with
    | true =>
      rw [hb] at h
      have : i = t := Nat.eq_of_beq_eq_true hb
      subst this
      simpa using h
    | false =>
      rw [hb] at h
      have hne : i ≠ t := fun e => by subst e; simp [Nat.beq_refl] at hb
      obtain ⟨h1, h2⟩ := ih h
      refine ⟨by omega, ?_⟩
      rw [show t - i = (t - (i + 1)) + 1 from by omega]
      simpa using h2

theorem enter {P : Program} {f : FuncId} {fn : Func} {code : Code} {l : List Value} {w : World} {F : Fp} {cs : List Ch} {R : Ending → World → Prop} {n : Nat} (hf : P.funcs[f]? = some fn) (hb : fn.body = some code) (hn : fn.ntmps = n) (hl : Nat.ble l.length n = true)
    (hh : Hold cs w F) (h : WS ⟨P, n, w, F⟩ (bodyPost P fn R) [code] (envOf 0 l) cs) : Calls P f l.toArray w R := by
  subst hn
  have hl' : l.length ≤ fn.ntmps := by simpa [Nat.ble_eq] using hl
  refine calls_of_wp hf hb ?_
  refine wp_mono (h _ w ⟨by simp; omega, rfl, fun t v ht => ?_⟩ (In.start hh)) ?_
  · obtain ⟨_, h2⟩ := envOf_lk ht
    rw [Nat.sub_zero] at h2
    have hlt : t < l.length := (List.getElem?_eq_some_iff.1 h2).1
    have h3 := (List.getElem?_eq_some_iff.1 h2).2
    simp [Array.getElem?_append, hlt, h3]
  · intro e a w' hq
    cases e <;> exact hq
theorem enter0 {P : Program} {f : FuncId} {fn : Func} {code : Code} {l : List Value} {w : World} {R : Ending → World → Prop} {n : Nat} (hf : P.funcs[f]? = some fn) (hb : fn.body = some code) (hn : fn.ntmps = n) (hl : Nat.ble l.length n = true)
    (h : WS ⟨P, n, w, Fp.no⟩ (bodyPost P fn R) [code] (envOf 0 l) []) : Calls P f l.toArray w R := enter (cs := []) hf hb hn hl (show Hold [] w Fp.no from fun _ h => h) h

section
variable {c : Cx} {env : Env} {cs : List Ch} {fn : Func} {R : Ending → World → Prop} {Q : Exit → Act → World → Prop} {ops : Array Oper} {rest : List Oper}
theorem run_results1 {P : Program} {a : Act} {t : Nat} {w : World} (h : fn.results = #[.tmp t]) : (results fn a.tmps).run P w = .ok (a.tmps.getD t undef) w := by
  simp [results, h]
theorem WE.fin1 {P : Program} {n : Nat} {w0 : World} {F0 : Fp} {t : Nat} {v : Value} (hr : fn.results = #[.tmp t]) (hv : lk env t = some v) (h : ∀ w, In w0 F0 cs w → R (.returned v) w) : WE ⟨P, n, w0, F0⟩ (bodyPost P fn R) .ret env cs := fun a w ha hw =>
  ⟨ha.defers, v, by rw [run_results1 hr]; congr 1; exact ha.eval (x := .tmp t) hv, h w hw⟩
theorem WE.fin1n {P : Program} {n : Nat} {w0 : World} {F0 : Fp} {t : Nat} {v : Value} (hr : fn.results = #[.tmp t]) (hv : lk env t = some v) (h : ∀ w, In w0 F0 cs w → R (.returned v) w) : WE ⟨P, n, w0, F0⟩ (bodyPost P fn R) .normal env cs := fun a w ha hw =>
  ⟨ha.defers, v, by rw [run_results1 hr]; congr 1; exact ha.eval (x := .tmp t) hv, h w hw⟩
theorem WE.fin2 {P : Program} {n : Nat} {w0 : World} {F0 : Fp} {t t' : Nat} {v v' : Value} (hr : fn.results = #[.tmp t, .tmp t']) (hv : lk env t = some v) (hv' : lk env t' = some v') (h : ∀ w, In w0 F0 cs w → R (.returned (.tuple #[v, v'])) w) : WE ⟨P, n, w0, F0⟩ (bodyPost P fn R) .ret env cs := fun a w ha hw => by
  refine ⟨ha.defers, .tuple #[v, v'], ?_, h w hw⟩
  have e1 : a.tmps.getD t undef = v := ha.eval (x := .tmp t) hv
  have e2 : a.tmps.getD t' undef = v' := ha.eval (x := .tmp t') hv'
  rw [results_tmp2 hr, e1, e2]
theorem WE.fin3 {P : Program} {n : Nat} {w0 : World} {F0 : Fp} {t t' t'' : Nat} {v v' v'' : Value} (hr : fn.results = #[.tmp t, .tmp t', .tmp t'']) (hv : lk env t = some v) (hv' : lk env t' = some v') (hv'' : lk env t'' = some v'') (h : ∀ w, In w0 F0 cs w → R (.returned (.tuple #[v, v', v''])) w) : WE ⟨P, n, w0, F0⟩ (bodyPost P fn R) .ret env cs := fun a w ha hw => by
  refine ⟨ha.defers, .tuple #[v, v', v''], ?_, h w hw⟩
  have e1 : a.tmps.getD t undef = v := ha.eval (x := .tmp t) hv
  have e2 : a.tmps.getD t' undef = v' := ha.eval (x := .tmp t') hv'
  have e3 : a.tmps.getD t'' undef = v'' := ha.eval (x := .tmp t'') hv''
  rw [results_tmp3 hr, e1, e2, e3]
theorem WE.fin0 {P : Program} {n : Nat} {w0 : World} {F0 : Fp} (hr : fn.results = #[]) (h : ∀ w, In w0 F0 cs w → R (.returned (.tuple #[])) w) : WE ⟨P, n, w0, F0⟩ (bodyPost P fn R) .normal env cs := fun a w ha hw =>
  ⟨ha.defers, .tuple #[], by simp [results, hr], h w hw⟩
theorem WE.fin0r {P : Program} {n : Nat} {w0 : World} {F0 : Fp} (hr : fn.results = #[]) (h : ∀ w, In w0 F0 cs w → R (.returned (.tuple #[])) w) : WE ⟨P, n, w0, F0⟩ (bodyPost P fn R) .ret env cs := fun a w ha hw =>
  ⟨ha.defers, .tuple #[], by simp [results, hr], h w hw⟩

/-! ### Which operation is it? -/
section
variable {xo : Option Tmp} {xt : TypeId} {xp : String} {xa : Array Edge} {xg : Option (Nat × Bool)}
theorem WL.isBin {b : BinOp} {t t' : TypeId} {x y : Operand} (h : WL c ops Q (⟨xo, .binOp b t x y t', xt, xp, xa, xg⟩ :: rest) env cs) : WL c ops Q (⟨xo, .binOp b t x y t', xt, xp, xa, xg⟩ :: rest) env cs := h
theorem WL.isLoad {t : TypeId} {x : Operand} (h : WL c ops Q (⟨xo, .load t x, xt, xp, xa, xg⟩ :: rest) env cs) : WL c ops Q (⟨xo, .load t x, xt, xp, xa, xg⟩ :: rest) env cs := h
theorem WL.isCall {x : Call} (h : WL c ops Q (⟨xo, .call x, xt, xp, xa, xg⟩ :: rest) env cs) : WL c ops Q (⟨xo, .call x, xt, xp, xa, xg⟩ :: rest) env cs := h
theorem WL.isPick {x y z : Operand} (h : WL c ops Q (⟨xo, .pick x y z, xt, xp, xa, xg⟩ :: rest) env cs) : WL c ops Q (⟨xo, .pick x y z, xt, xp, xa, xg⟩ :: rest) env cs := h
theorem WE.is {e : Exit} (h : WE c Q e env cs) : WE c Q e env cs := h
theorem WS.is {r : List Code} (h : WS c Q r env cs) : WS c Q r env cs := h
theorem WL.is {l : List Oper} (h : WL c ops Q l env cs) : WL c ops Q l env cs := h
end

/-! ### An operation that leaves another world -/
/-- The value and the parts behind it, whatever they are. -/
theorem WL.run {o : Oper} {d : Nat} (hg : gd ops env o.guard = some true) (hd : o.dst = some d) (hn : Nat.blt d c.n = true)
    (h : ∀ a w, Ag c.n env a → In c.w0 c.F0 cs w → ∃ v w' cs', (execOp a.eval o).run c.P w = .ok (.value v) w' ∧ In c.w0 c.F0 cs' w' ∧ WL c ops Q rest ((d, v) :: env) cs') : WL c ops Q (o :: rest) env cs := fun a w ha hw => by
  obtain ⟨v, w', cs', e, hi, next⟩ := h a w ha hw
  refine wpList_step fun K hK => ?_
  rw [gd_wanted ha hg, if_pos rfl]
  simp only [Oper.wp, e, Oper.upon]
  exact hK _ _ (next _ w' (hd ▸ ha.put hn v) hi)
theorem WL.run0 {o : Oper} (hg : gd ops env o.guard = some true) (hd : o.dst = none)
    (h : ∀ a w, Ag c.n env a → In c.w0 c.F0 cs w → ∃ w' cs', ((execOp a.eval o).run c.P w = .ok .skip w' ∨ ∃ v, (execOp a.eval o).run c.P w = .ok (.value v) w') ∧ In c.w0 c.F0 cs' w' ∧ WL c ops Q rest env cs') : WL c ops Q (o :: rest) env cs := fun a w ha hw => by
  obtain ⟨w', cs', e, hi, next⟩ := h a w ha hw
  refine wpList_step fun K hK => ?_
  rw [gd_wanted ha hg, if_pos rfl]
  rcases e with e | ⟨v, e⟩
  · simp only [Oper.wp, e, Oper.upon]
    exact hK _ _ (next _ w' (by rw [hd]; exact ha.put_none _) hi)
  · simp only [Oper.wp, e, Oper.upon]
    exact hK _ _ (next _ w' (by rw [hd]; exact ha.put_none _) hi)

section
variable {xd : TypeDesc} {xs : String} {nn nb : Nat} {hp cm : Bool} {al fa : Nat} {zz : Option Value} {ms : Array Method}
variable {ty : TypeId} {pos : String} {af : Array Edge} {g : Option (Nat × Bool)} {d : Nat}
/-- A new variable: its block, unlike all others. -/
theorem WL.alloc {e : TypeId} {z : Value} {l : List Value} (hz : ty? c.P e = some ⟨xd, xs, nn, nb, hp, al, fa, some z, cm, ms⟩) (hl : z.cells = l.toArray) (hg : gd ops env g = some true) (hn : Nat.blt d c.n = true)
    (h : ∀ b, c.w0.heap.size ≤ b → WL c ops Q rest ((d, .pointer (some ⟨b, 0, none⟩)) :: env) (blk b (.cells l.toArray e (0, 0)) :: cs)) : WL c ops Q (⟨some d, .alloc e, ty, pos, af, g⟩ :: rest) env cs :=
  WL.run hg rfl hn fun a w ha hw => ⟨_, _, _, by
    simp only [execOp, Instr.alloc, Sem.run_bind, run_zero hz, Result.andThen_ok, newVar, newRow, run_newObj, Sem.run_pure, hl], hw.alloc _, h _ hw.size⟩
theorem WL.box {e : TypeId} {x : Operand} {v : Value} {l : List Value} (hx : ev env x = some v) (hl : v.cells = l.toArray) (hg : gd ops env g = some true) (hn : Nat.blt d c.n = true)
    (h : ∀ b, c.w0.heap.size ≤ b → WL c ops Q rest ((d, .pointer (some ⟨b, 0, none⟩)) :: env) (blk b (.cells l.toArray e (0, 0)) :: cs)) : WL c ops Q (⟨some d, .box e x, ty, pos, af, g⟩ :: rest) env cs :=
  WL.run hg rfl hn fun a w ha hw => ⟨_, _, _, by
    simp only [execOp, Instr.box, ha.eval hx, Sem.run_bind, newVar, newRow, run_newObj, Result.andThen_ok, Sem.run_pure, hl], hw.alloc _, h _ hw.size⟩

theorem heap_setCell (w : World) (a : Addr) (v : Value) {cs' : Array Value} {e : TypeId} {fr : Nat × Nat} (hb : w.heap[a.block]? = some (.cells cs' e fr)) (hs : a.spot = none) :
    (w.setCell a v).heap[a.block]? = some (.cells (cs'.setIfInBounds a.off v) e fr) := by
  simp only [World.setCell, Array.getElem?_modify, if_pos rfl, hb, Option.map_some, hs]; rfl
theorem heap_setCell_ne (w : World) (a : Addr) (v : Value) {k : Nat} (hk : k ≠ a.block) : (w.setCell a v).heap[k]? = w.heap[k]? := by
  simp only [World.setCell, Array.getElem?_modify, if_neg (Ne.symm hk)]

theorem run_storeVar1 {P : Program} {w : World} {t : TypeId} {a : Addr} {u v : Value} (hs : ty? P t = some ⟨xd, xs, 1, nb, hp, al, fa, zz, cm, ms⟩) (hv : v.oneCell' = true) (hc : w.cell? a = some u) (hf : w.frozen? a = false) : (storeVar t a v).run P w = .ok () (w.setCell a v) := by
  have h1 : v.cells = #[v] := by cases v <;> first | rfl | (simp [Value.oneCell'] at hv)
  have e : (store a v).run P w = .ok () (w.setCell a v) := by rw [run_store _ _ _ _ _ hv]; simp [hc, hf]
  have h0 : a.add 0 = a := by simp [Addr.add]
  simp only [storeVar, Sem.run_bind, run_size hs, Result.andThen_ok, h1, List.size_toArray, List.length_cons, List.length_nil, Nat.zero_add, ne_eq, not_true_eq_false, if_false, storeCells, h0, e]; rfl

/-- A store of one cell into a block that is known whole. -/
theorem WL.storeB (i : Nat) {x y : Operand} {t : TypeId} {b o : Nat} {v : Value} {vs : List Value} {e : TypeId} {r : List Ch} (hs : ty? c.P t = some ⟨xd, xs, 1, nb, hp, al, fa, zz, cm, ms⟩) (hx : ev env x = some (.pointer (some ⟨b, o, none⟩))) (hy : ev env y = some v) (hv : v.oneCell' = true)
    (hb : nth cs i = some (blk b (.cells vs.toArray e (0, 0)), r)) (ho : o < vs.length) (hg : gd ops env g = some true)
    (h : WL c ops Q rest env (blk b (.cells (vs.set o v).toArray e (0, 0)) :: r)) : WL c ops Q (⟨none, .store t x y, ty, pos, af, g⟩ :: rest) env cs :=
  WL.run0 hg rfl fun a w ha hw => by
    have hw' := hw.nth hb
    have hbk := hw.blk_heap hb
    have hc : w.cell? ⟨b, o, none⟩ = some (vs[o]'ho) := by
      simp [World.cell?, hbk, List.getElem?_eq_getElem ho]
    have hf : w.frozen? ⟨b, o, none⟩ = false := by simp [World.frozen?, hbk]
    refine ⟨w.setCell ⟨b, o, none⟩ v, _, .inl ?_, hw'.setBlk (o' := .cells (vs.set o v).toArray e (0, 0)) rfl rfl rfl (by simp) ?_ (fun k hk => heap_setCell_ne w ⟨b, o, none⟩ v hk), h⟩
    · simp only [execOp, ha.eval hx, ha.eval hy, Instr.storeAt, Instr.sureAddr, Sem.run_bind, Sem.run_pure, Result.andThen_ok, run_storeVar1 hs hv hc hf]
    · have := heap_setCell w ⟨b, o, none⟩ v (cs' := vs.toArray) (e := e) (fr := (0, 0)) hbk rfl
      rw [this, List.setIfInBounds_toArray]

theorem run_storeCells {P : Program} {b : Nat} {e : TypeId} : ∀ (new : List Value) (i o : Nat) (w : World) (l1 old l2 : List Value), w.heap[b]? = some (.cells (l1 ++ old ++ l2).toArray e (0, 0)) → o + i = l1.length → old.length = new.length → (∀ v ∈ new, v.oneCell' = true) →
    ∃ w', (storeCells ⟨b, o, none⟩ new i).run P w = .ok () w' ∧ w'.os = w.os ∧ w'.tape = w.tape ∧ w'.output = w.output ∧ w'.heap.size = w.heap.size ∧ w'.heap[b]? = some (.cells (l1 ++ new ++ l2).toArray e (0, 0)) ∧ ∀ k, k ≠ b → w'.heap[k]? = w.heap[k]? := by
  intro new
  induction new with
  | nil =>
    intro i o w l1 old l2 hb hi ho hv
    obtain rfl : old = [] := List.eq_nil_of_length_eq_zero ho
    exact ⟨w, rfl, rfl, rfl, rfl, rfl, hb, fun _ _ => rfl⟩
  | cons v new ih =>
    intro i o w l1 old l2 hb hi ho hv
    match old, ho with
    | u :: old, ho =>
      have h1 := hv v (by simp)
      have hc : w.cell? ⟨b, o + i, none⟩ = some u := by simp [World.cell?, hb, hi]
      have hf : w.frozen? ⟨b, o + i, none⟩ = false := by simp [World.frozen?, hb]
      have e1 : (store ⟨b, o + i, none⟩ v).run P w = .ok () (w.setCell ⟨b, o + i, none⟩ v) := by rw [run_store _ _ _ _ _ h1]; simp [hc, hf]
      have hb' : (w.setCell ⟨b, o + i, none⟩ v).heap[b]? = some (.cells ((l1 ++ [v]) ++ old ++ l2).toArray e (0, 0)) := by
        have := heap_setCell w ⟨b, o + i, none⟩ v (e := e) (fr := (0, 0)) hb rfl
        rw [this, List.setIfInBounds_toArray, hi]
        simp
      obtain ⟨w', e2, g1, g2, g3, g4, g5, g6⟩ := ih (i + 1) o _ (l1 ++ [v]) old l2 hb' (by simp; omega) (by simpa using ho) (fun v' hv' => hv v' (by simp [hv']))
      refine ⟨w', ?_, g1, g2, g3, by rw [g4]; simp, by rw [g5]; simp, fun k hk => (g6 k hk).trans (heap_setCell_ne w ⟨b, o + i, none⟩ v hk)⟩
      simp only [storeCells, Sem.run_bind, add0, e1, Result.andThen_ok, e2]

/-- A store of several cells over a whole block, or over a piece of it. -/
theorem WL.storeBA (i : Nat) {x y : Operand} {t : TypeId} {b o : Nat} {new l1 old l2 : List Value} {vs : List Value} {e : TypeId} {r : List Ch} (hs : ty? c.P t = some ⟨xd, xs, new.length, nb, hp, al, fa, zz, cm, ms⟩) (hx : ev env x = some (.pointer (some ⟨b, o, none⟩))) (hy : ev env y = some (.agg new.toArray)) (hv : new.all (·.oneCell') = true)
    (hb : nth cs i = some (blk b (.cells vs.toArray e (0, 0)), r)) (hl : vs = l1 ++ old ++ l2) (ho : o = l1.length) (hlen : old.length = new.length) (hg : gd ops env g = some true)
    (h : WL c ops Q rest env (blk b (.cells (l1 ++ new ++ l2).toArray e (0, 0)) :: r)) : WL c ops Q (⟨none, .store t x y, ty, pos, af, g⟩ :: rest) env cs :=
  WL.run0 hg rfl fun a w ha hw => by
    subst hl
    have hw' := hw.nth hb
    have hbk := hw.blk_heap hb
    obtain ⟨w', e2, g1, g2, g3, g4, g5, g6⟩ := run_storeCells (P := c.P) new 0 o w l1 old l2 hbk (by omega) hlen (by simpa using hv)
    refine ⟨w', _, .inl ?_, hw'.setBlk g1 g2 g3 g4 g5 g6, h⟩
    have hcs : (Value.agg new.toArray).cells = new.toArray := rfl
    simp only [execOp, ha.eval hx, ha.eval hy, Instr.storeAt, Instr.sureAddr, Sem.run_bind, Sem.run_pure, Result.andThen_ok, storeVar, run_size hs, hcs, List.size_toArray, ne_eq, not_true_eq_false, if_false, e2]

/-- A store over a whole block. -/
theorem WL.storeW (i : Nat) {x y : Operand} {t : TypeId} {b : Nat} {new : List Value} {vs : List Value} {e : TypeId} {r : List Ch} (hs : ty? c.P t = some ⟨xd, xs, new.length, nb, hp, al, fa, zz, cm, ms⟩) (hx : ev env x = some (.pointer (some ⟨b, 0, none⟩))) (hy : ev env y = some (.agg new.toArray)) (hv : new.all (·.oneCell') = true)
    (hb : nth cs i = some (blk b (.cells vs.toArray e (0, 0)), r)) (hlen : vs.length = new.length) (hg : gd ops env g = some true)
    (h : WL c ops Q rest env (blk b (.cells new.toArray e (0, 0)) :: r)) : WL c ops Q (⟨none, .store t x y, ty, pos, af, g⟩ :: rest) env cs :=
  WL.storeBA i (l1 := []) (l2 := []) (old := vs) hs hx hy hv hb (by simp) rfl hlen hg (by simpa using h)

/-! ### Rows of cells that came in -/
end
end
/-- From A on lie elements of 's' cells each. -/
def RowsAt (w : World) (A : Option Addr) (s : Nat) (rows : List (List Value)) : Prop :=
  ∀ i row, rows[i]? = some row → row.length = s ∧ ∃ ad, A = some ad ∧ ∀ j v, row[j]? = some v → w.cell? (ad.add (i * s + j)) = some v
theorem RowsAt.keep {w w' : World} {A : Option Addr} {s : Nat} {rows : List (List Value)} (h : RowsAt w A s rows) (k : Keep Fp.no w w') : RowsAt w' A s rows := fun i row hr => by
  obtain ⟨h1, ad, h2, h3⟩ := h i row hr
  exact ⟨h1, ad, h2, fun j v hv => k.cell0 (h3 j v hv)⟩
theorem RowsAt.get {w : World} {A : Option Addr} {s : Nat} {rows : List (List Value)} (h : RowsAt w A s rows) {i : Nat} {row : List Value} (hr : rows[i]? = some row) : ∃ ad, A = some ad ∧ row.length = s ∧ ∀ j v, row[j]? = some v → w.cell? ((ad.add (i * s)).add j) = some v := by
  obtain ⟨h1, ad, h2, h3⟩ := h i row hr
  exact ⟨ad, h2, h1, fun j v hv => by rw [add_add]; exact h3 j v hv⟩
section
variable {c : Cx} {env : Env} {cs : List Ch} {fn : Func} {R : Ending → World → Prop} {Q : Exit → Act → World → Prop} {ops : Array Oper} {rest : List Oper}
section
variable {ty : TypeId} {pos : String} {af : Array Edge} {g : Option (Nat × Bool)} {d : Nat}

/-! ### A call -/
/-- What a function does that makes parts, or turns some. -/
abbrev Makes (P : Program) (f : FuncId) (args : Array Value) (w : World) (F : Fp) (post : Value → List Ch → Prop) : Prop :=
  Calls P f args w fun e w' => ∃ v cs, e = .returned v ∧ post v cs ∧ In w F cs w'

theorem In.call {w0 : World} {F0 : Fp} {c0 cs new : List Ch} {w w' : World} (h : In w0 F0 (c0 ++ cs) w) (hk : ∀ F, Hold c0 w F → In w F new w') : In w0 F0 (new ++ cs) w' := by
  obtain ⟨k, f, hf, hn⟩ := h
  -- the first parts as one
  let one : Ch := ⟨fun w f => Hold c0 w f, fun w f h => Hold.dom h, fun w w' f h he => Hold.loc h he⟩
  have key : ∀ (l : List Ch) (f : Fp), Hold (l ++ cs) w f → ∃ g h, Hold l w g ∧ Hold cs w h ∧ (∀ k, g k → ¬ h k) ∧ ∀ k, f k ↔ (g k ∨ h k) := by
    intro l
    induction l with
    | nil => intro f hf; exact ⟨Fp.no, f, fun _ h => h, hf, fun _ h => h.elim, fun k => ⟨.inr, fun h => h.elim (fun h => h.elim) id⟩⟩
    | cons d l ih =>
      rintro f ⟨g, h, hg, hh, hd, hf⟩
      obtain ⟨g', h', h1, h2, h3, h4⟩ := ih h hh
      refine ⟨fun k => g k ∨ g' k, h', ⟨g, g', hg, h1, fun k hk hk' => hd k hk ((h4 k).2 (.inl hk')), fun _ => Iff.rfl⟩, h2, fun k hk hk' => ?_, fun k => ?_⟩
      · rcases hk with h5 | h5
        · exact hd k h5 ((h4 k).2 (.inr hk'))
        · exact h3 k h5 hk'
      · rw [hf k, h4 k]; exact or_assoc.symm
  obtain ⟨g, h, h1, h2, h3, h4⟩ := key c0 f hf
  have hone : In w0 F0 (one :: cs) w := ⟨k, f, ⟨g, h, h1, h2, h3, h4⟩, hn⟩
  refine hone.turn (fun g hg => ?_)
  obtain ⟨k', f', hf', hn'⟩ := hk g hg
  exact ⟨k', f', hf', hn'⟩

theorem WL.call (m : Nat) {x : Operand} {l : List Operand} {tys : Array TypeId} {f : FuncId} {fn : Func} {vs : List Value} {first cap : Array Value} {ws : Array Value} {post : Value → List Ch → Prop} (hx : ev env x = some (.func (.func f) first cap)) (hl : args? env l = some vs)
    (hw : (first.toList ++ vs ++ cap.toList).toArray = ws) (hf : c.P.funcs[f]? = some fn) (hb : fn.body.isSome = true) (hN : (fn.name == "runtime.NumGoroutine") = false) (hg : gd ops env g = some true) (hn : Nat.blt d c.n = true)
    (h : ∀ w F, In c.w0 c.F0 cs w → Hold (cs.take m) w F → Makes c.P f ws w F post)
    (next : ∀ v new, post v new → WL c ops Q rest ((d, v) :: env) (new ++ cs.drop m)) : WL c ops Q (⟨some d, .call ⟨.value x, l.toArray, tys⟩, ty, pos, af, g⟩ :: rest) env cs := fun a w ha hi => by
  subst hw
  have e := run_callOp (P := c.P) (w := w) (d := some d) (ty := ty) (pos := pos) (af := af) (g := g) (x := x) (tys := tys) (first := first.toList) (cap := cap.toList) hf hb hN (by rw [ha.eval hx]) (args?_eval ha hl)
  refine wpList_step fun K hK => ?_
  rw [gd_wanted ha hg, if_pos rfl]
  simp only [Oper.wp, e, Oper.upon]
  intro frs
  -- the parts that the call takes stand on one set of blocks
  have hi' : In c.w0 c.F0 (cs.take m ++ cs.drop m) w := by rw [List.take_append_drop]; exact hi
  obtain ⟨k, fp, hfp, hnn⟩ := hi'
  have key : ∀ (l l' : List Ch) (f : Fp), Hold (l ++ l') w f → ∃ g, Hold l w g ∧ ∃ h, Hold l' w h ∧ (∀ k, g k → ¬ h k) ∧ ∀ k, f k ↔ (g k ∨ h k) := by
    intro l
    induction l with
    | nil => intro l' f hf; exact ⟨Fp.no, fun _ h => h, f, hf, fun _ h => h.elim, fun k => ⟨.inr, fun h => h.elim (fun h => h.elim) id⟩⟩
    | cons d l ih =>
      rintro l' f ⟨g, h, hg, hh, hd, hf⟩
      obtain ⟨g', h1, h', h2, h3, h4⟩ := ih l' h hh
      refine ⟨fun k => g k ∨ g' k, ⟨g, g', hg, h1, fun k hk hk' => hd k hk ((h4 k).2 (.inl hk')), fun _ => Iff.rfl⟩, h', h2, fun k hk hk' => ?_, fun k => ?_⟩
      · rcases hk with h5 | h5
        · exact hd k h5 ((h4 k).2 (.inr hk'))
        · exact h3 k h5 hk'
      · rw [hf k, h4 k]; exact or_assoc.symm
  obtain ⟨G, hG, Hh, hH, hdis, hor⟩ := key _ _ _ hfp
  obtain ⟨en, w', fr, hR, hrest⟩ := h w G hi hG frs
  refine ⟨en, w', fr, ?_, hrest⟩
  obtain ⟨v, new, rfl, hp, hin⟩ := hR
  refine hK _ _ (next v new hp _ w' (ha.put hn v) ?_)
  let one : Ch := ⟨fun w f => Hold (cs.take m) w f ∧ f = G, fun w f h => Hold.dom h.1, fun w w' f h he => ⟨Hold.loc h.1 he, h.2⟩⟩
  have hone : In c.w0 c.F0 (one :: cs.drop m) w := ⟨k, fp, ⟨G, Hh, ⟨hG, rfl⟩, hH, hdis, hor⟩, hnn⟩
  refine hone.turn (fun g' hg' => ?_)
  obtain ⟨_, rfl⟩ := hg'
  obtain ⟨k', f', hf', hn'⟩ := hin
  exact ⟨k', f', hf', hn'⟩
end
end
end Go.Sx
