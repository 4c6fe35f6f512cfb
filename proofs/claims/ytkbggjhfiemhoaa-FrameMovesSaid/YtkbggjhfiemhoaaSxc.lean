/- The walk's operations: numbers, texts, addresses, reads, calls that turn nothing. -/
import Derived.Test.YtkbggjhfiemhoaaSxb
namespace Go.Sx
set_option linter.unusedVariables false
set_option linter.unusedSimpArgs false
section
variable {xd : TypeDesc} {xs : String} {nb : Nat} {hp cm : Bool} {al fa : Nat} {z : Option Value} {ms : Array Method} {nm tg pk : String} {ft : TypeId} {fo bo : Nat} {em : Bool}
variable {c : Cx} {env : Env} {cs : List Ch} {ty : TypeId} {pos : String} {af : Array Edge} {g : Option (Nat × Bool)} {d : Option Tmp}

/-! ### Whole numbers -/
theorem in64 {n : Int} (h : -9223372036854775808 ≤ n ∧ n ≤ 9223372036854775807) : IntKind.i64.wrap n = n := by
  simp only [IntKind.wrap, IntKind.bits, IntKind.signed, Bool.true_and]
  simp only [show ((2 : Int) ^ 64) = 18446744073709551616 from rfl, show ((2 : Int) ^ (64 - 1)) = 9223372036854775808 from rfl]
  split
  · rename_i h'; simp only [decide_eq_true_eq] at h'; omega
  · rename_i h'; simp only [decide_eq_true_eq] at h'; omega

section
variable {x y : Operand} {k : IntKind} {a b : Int} {t t' : TypeId}
theorem OpR.add (hx : ev env x = some (.int k a)) (hy : ev env y = some (.int k b)) : OpR c env cs ⟨d, .binOp .add t x y t', ty, pos, af, g⟩ (.int k (k.wrap (a + b))) := .of_run fun _ w ha hw => by
  simp only [execOp, ha.eval hx, ha.eval hy, eqGuard, binOp, ne_eq, not_true_eq_false, if_false, Op.intArith]; rfl
theorem OpR.sub (hx : ev env x = some (.int k a)) (hy : ev env y = some (.int k b)) : OpR c env cs ⟨d, .binOp .sub t x y t', ty, pos, af, g⟩ (.int k (k.wrap (a - b))) := .of_run fun _ w ha hw => by
  simp only [execOp, ha.eval hx, ha.eval hy, eqGuard, binOp, ne_eq, not_true_eq_false, if_false, Op.intArith]; rfl
theorem OpR.mul (hx : ev env x = some (.int k a)) (hy : ev env y = some (.int k b)) : OpR c env cs ⟨d, .binOp .mul t x y t', ty, pos, af, g⟩ (.int k (k.wrap (a * b))) := .of_run fun _ w ha hw => by
  simp only [execOp, ha.eval hx, ha.eval hy, eqGuard, binOp, ne_eq, not_true_eq_false, if_false, Op.intArith]; rfl
theorem OpR.add64 (hx : ev env x = some (.int .i64 a)) (hy : ev env y = some (.int .i64 b)) (h : -9223372036854775808 ≤ a + b ∧ a + b ≤ 9223372036854775807) : OpR c env cs ⟨d, .binOp .add t x y t', ty, pos, af, g⟩ (.int .i64 (a + b)) := by
  have := OpR.add (c := c) (cs := cs) (ty := ty) (pos := pos) (af := af) (g := g) (d := d) (t := t) (t' := t') hx hy
  rwa [in64 h] at this
theorem OpR.sub64 (hx : ev env x = some (.int .i64 a)) (hy : ev env y = some (.int .i64 b)) (h : -9223372036854775808 ≤ a - b ∧ a - b ≤ 9223372036854775807) : OpR c env cs ⟨d, .binOp .sub t x y t', ty, pos, af, g⟩ (.int .i64 (a - b)) := by
  have := OpR.sub (c := c) (cs := cs) (ty := ty) (pos := pos) (af := af) (g := g) (d := d) (t := t) (t' := t') hx hy
  rwa [in64 h] at this
theorem OpR.mul64 (hx : ev env x = some (.int .i64 a)) (hy : ev env y = some (.int .i64 b)) (h : -9223372036854775808 ≤ a * b ∧ a * b ≤ 9223372036854775807) : OpR c env cs ⟨d, .binOp .mul t x y t', ty, pos, af, g⟩ (.int .i64 (a * b)) := by
  have := OpR.mul (c := c) (cs := cs) (ty := ty) (pos := pos) (af := af) (g := g) (d := d) (t := t) (t' := t') hx hy
  rwa [in64 h] at this
theorem OpR.quo (hx : ev env x = some (.int k a)) (hy : ev env y = some (.int k b)) (hb : b ≠ 0) : OpR c env cs ⟨d, .binOp .quo t x y t', ty, pos, af, g⟩ (.int k (k.wrap (a.tdiv b))) := .of_run fun _ w ha hw => by
  simp only [execOp, ha.eval hx, ha.eval hy, eqGuard, binOp, ne_eq, not_true_eq_false, if_false, Op.intDiv, if_neg hb]; rfl
theorem OpR.rem (hx : ev env x = some (.int k a)) (hy : ev env y = some (.int k b)) (hb : b ≠ 0) : OpR c env cs ⟨d, .binOp .rem t x y t', ty, pos, af, g⟩ (.int k (a.tmod b)) := .of_run fun _ w ha hw => by
  simp only [execOp, ha.eval hx, ha.eval hy, eqGuard, binOp, ne_eq, not_true_eq_false, if_false, Op.intDiv, if_neg hb]; rfl
theorem OpR.quo64 (hx : ev env x = some (.int .i64 a)) (hy : ev env y = some (.int .i64 b)) (h0 : 0 ≤ a ∧ a ≤ 9223372036854775807) (hb : 0 < b) : OpR c env cs ⟨d, .binOp .quo t x y t', ty, pos, af, g⟩ (.int .i64 (a / b)) := by
  have := OpR.quo (c := c) (cs := cs) (ty := ty) (pos := pos) (af := af) (g := g) (d := d) (t := t) (t' := t') hx hy (by omega)
  rw [Int.tdiv_eq_ediv_of_nonneg h0.1, in64 ⟨by have := Int.ediv_nonneg h0.1 (Int.le_of_lt hb); omega, by have := Int.ediv_le_self b h0.1; omega⟩] at this
  exact this
theorem OpR.rem64 (hx : ev env x = some (.int .i64 a)) (hy : ev env y = some (.int .i64 b)) (h0 : 0 ≤ a) (hb : 0 < b) : OpR c env cs ⟨d, .binOp .rem t x y t', ty, pos, af, g⟩ (.int .i64 (a % b)) := by
  have := OpR.rem (c := c) (cs := cs) (ty := ty) (pos := pos) (af := af) (g := g) (d := d) (t := t) (t' := t') hx hy (by omega)
  rw [Int.tmod_eq_emod_of_nonneg h0] at this
  exact this
theorem OpR.lss (hx : ev env x = some (.int k a)) (hy : ev env y = some (.int k b)) : OpR c env cs ⟨d, .binOp .lss t x y t', ty, pos, af, g⟩ (.bool (decide (a < b))) := .of_run fun _ w ha hw => by
  simp only [execOp, ha.eval hx, ha.eval hy, eqGuard, binOp, ne_eq, not_true_eq_false, if_false, Op.intCmp]; rfl
theorem OpR.leq (hx : ev env x = some (.int k a)) (hy : ev env y = some (.int k b)) : OpR c env cs ⟨d, .binOp .leq t x y t', ty, pos, af, g⟩ (.bool (decide (a ≤ b))) := .of_run fun _ w ha hw => by
  simp only [execOp, ha.eval hx, ha.eval hy, eqGuard, binOp, ne_eq, not_true_eq_false, if_false, Op.intCmp]; rfl
theorem OpR.gtr (hx : ev env x = some (.int k a)) (hy : ev env y = some (.int k b)) : OpR c env cs ⟨d, .binOp .gtr t x y t', ty, pos, af, g⟩ (.bool (decide (b < a))) := .of_run fun _ w ha hw => by
  simp only [execOp, ha.eval hx, ha.eval hy, eqGuard, binOp, ne_eq, not_true_eq_false, if_false, Op.intCmp]; rfl
theorem OpR.geq (hx : ev env x = some (.int k a)) (hy : ev env y = some (.int k b)) : OpR c env cs ⟨d, .binOp .geq t x y t', ty, pos, af, g⟩ (.bool (decide (b ≤ a))) := .of_run fun _ w ha hw => by
  simp only [execOp, ha.eval hx, ha.eval hy, eqGuard, binOp, ne_eq, not_true_eq_false, if_false, Op.intCmp]; rfl
theorem OpR.eql (hx : ev env x = some (.int k a)) (hy : ev env y = some (.int k b)) : OpR c env cs ⟨d, .binOp .eql t x y t', ty, pos, af, g⟩ (.bool (decide (a = b))) := .of_run fun _ w ha hw => by
  simp only [execOp, ha.eval hx, ha.eval hy, eqGuard, binOp, ne_eq, not_true_eq_false, if_false, Op.intCmp]; rfl
theorem OpR.neq (hx : ev env x = some (.int k a)) (hy : ev env y = some (.int k b)) : OpR c env cs ⟨d, .binOp .neq t x y t', ty, pos, af, g⟩ (.bool (!decide (a = b))) := .of_run fun _ w ha hw => by
  simp only [execOp, ha.eval hx, ha.eval hy, eqGuard, binOp, ne_eq, not_true_eq_false, if_false, Op.intCmp]; rfl
end

/-! ### Texts, bools -/
section
variable {x y : Operand} {a b : ByteArray} {t t' : TypeId}
theorem OpR.seql (hx : ev env x = some (.string a)) (hy : ev env y = some (.string b)) : OpR c env cs ⟨d, .binOp .eql t x y t', ty, pos, af, g⟩ (.bool (a.toList == b.toList)) := .of_run fun _ w ha hw => by
  simp only [execOp, ha.eval hx, ha.eval hy, eqGuard, binOp, Op.stringOp]; rfl
theorem OpR.sneq (hx : ev env x = some (.string a)) (hy : ev env y = some (.string b)) : OpR c env cs ⟨d, .binOp .neq t x y t', ty, pos, af, g⟩ (.bool (!(a.toList == b.toList))) := .of_run fun _ w ha hw => by
  simp only [execOp, ha.eval hx, ha.eval hy, eqGuard, binOp, Op.stringOp]; rfl
theorem OpR.sadd (hx : ev env x = some (.string a)) (hy : ev env y = some (.string b)) (h : a.size + b.size ≤ 9223372036854775807) : OpR c env cs ⟨d, .binOp .add t x y t', ty, pos, af, g⟩ (.string (a ++ b)) := .of_run fun _ w ha hw => by
  have hn : ¬ (((a.size + b.size : Nat) : Int) > IntKind.i64.max) := by
    rw [show IntKind.i64.max = 9223372036854775807 from rfl]; omega
  simp only [execOp, ha.eval hx, ha.eval hy, eqGuard, binOp, Op.stringOp, if_neg hn]; rfl
end

/-! ### The program's types -/
variable {P : Program} {w : World}
theorem run_und {t : TypeId} {u : TypeDesc} (h : P.underlying t = some u) : (underlying t).run P w = .ok u w := by
  simp only [underlying, Sem.run_bind, run_program, Result.andThen_ok, h]; rfl
/-- The program's row of a type, off the list. -/
def ty? (P : Program) (t : TypeId) : Option TypeInfo := P.types.toList[t]?
theorem ty?_info {t : TypeId} {i : TypeInfo} (h : ty? P t = some i) : P.info? t = some i := by
  unfold ty? at h
  obtain ⟨hl, he⟩ := List.getElem?_eq_some_iff.1 h
  have hl' : t < P.types.size := by simpa using hl
  unfold Tables.info?
  rw [if_pos hl', Array.getElem?_eq_getElem hl']
  simpa using he
theorem run_inf {t : TypeId} {i : TypeInfo} (h : P.info? t = some i) : (typeInfo t).run P w = .ok i w := by
  simp only [typeInfo, Sem.run_bind, run_program, Result.andThen_ok, h]; rfl
section
variable {t : TypeId} {xd : TypeDesc} {xs : String} {n nb : Nat} {hp cm : Bool} {al fa : Nat} {z : Option Value} {ms : Array Method}
theorem run_size (h : ty? P t = some ⟨xd, xs, n, nb, hp, al, fa, z, cm, ms⟩) : (sizeOf t).run P w = .ok n w := by
  simp only [sizeOf, Sem.run_bind, run_inf (ty?_info h), Result.andThen_ok]; rfl
theorem run_zero {v : Value} (h : ty? P t = some ⟨xd, xs, n, nb, hp, al, fa, some v, cm, ms⟩) : (zeroValue t).run P w = .ok v w := by
  simp only [zeroValue, Sem.run_bind, run_inf (ty?_info h), Result.andThen_ok]; rfl
end
/-- Is a type's value several cells? -/
def aggD : TypeDesc → Bool
  | .struct _ | .array _ _ => true
  | _ => false
theorem run_agg {t : TypeId} {u : TypeDesc} (h : P.underlying t = some u) : (isAgg t).run P w = .ok (aggD u) w := by
  simp only [isAgg, Sem.run_bind, run_und h, Result.andThen_ok]
  cases u <;> rfl

theorem run_eqd {t : TypeId} {x y : Value} {b : Bool} (h : ∀ n, (Op.equalIn (n + 1) t x y).run P w = .ok b w) : (Op.equal t x y).run P w = .ok b w := h 9999
theorem eqd_bool {t : TypeId} {a b : Bool} (hu : P.underlying t = some .bool) (n : Nat) : (Op.equalIn (n + 1) t (.bool a) (.bool b)).run P w = .ok (a == b) w := run_equalIn_bool' w n t a b hu
theorem eqd_ptr {t e : TypeId} {a : Option Addr} (hu : P.underlying t = some (.pointer e)) (n : Nat) : (Op.equalIn (n + 1) t (.pointer a) (.pointer none)).run P w = .ok a.isNone w := by
  simp only [Op.equalIn, Sem.run_bind, run_und hu, Result.andThen_ok]
  cases a <;> rfl
theorem eqd_slice {t e : TypeId} {a : Option Addr} {k m : Nat} (hu : P.underlying t = some (.slice e)) (n : Nat) : (Op.equalIn (n + 1) t (.slice a k m) (.slice none 0 0)).run P w = .ok a.isNone w := by
  simp only [Op.equalIn, Sem.run_bind, run_und hu, Result.andThen_ok]
  cases a <;> rfl
theorem OpR.beql {x y : Operand} {a b : Bool} {t t' : TypeId} (hu : c.P.underlying t = some .bool) (hx : ev env x = some (.bool a)) (hy : ev env y = some (.bool b)) : OpR c env cs ⟨d, .binOp .eql t x y t', ty, pos, af, g⟩ (.bool (a == b)) := .of_run fun _ w ha hw => by
  have e := run_eqd (P := c.P) (w := w) (fun n => eqd_bool (a := a) (b := b) hu n)
  simp only [execOp, ha.eval hx, ha.eval hy, eqGuard, binOp, Sem.run_bind]
  rw [show (if (!true) = true then (Pure.pure () : Sem Unit) else Pure.pure ()) = Pure.pure () from rfl]
  simp only [Sem.run_pure, Result.andThen_ok, e]
theorem OpR.bneq {x y : Operand} {a b : Bool} {t t' : TypeId} (hu : c.P.underlying t = some .bool) (hx : ev env x = some (.bool a)) (hy : ev env y = some (.bool b)) : OpR c env cs ⟨d, .binOp .neq t x y t', ty, pos, af, g⟩ (.bool (!(a == b))) := .of_run fun _ w ha hw => by
  have e := run_eqd (P := c.P) (w := w) (fun n => eqd_bool (a := a) (b := b) hu n)
  simp only [execOp, ha.eval hx, ha.eval hy, eqGuard, binOp, Sem.run_bind]
  rw [show (if (!true) = true then (Pure.pure () : Sem Unit) else Pure.pure ()) = Pure.pure () from rfl]
  simp only [Sem.run_pure, Result.andThen_ok, e]
theorem OpR.peql {x y : Operand} {a : Option Addr} {e : TypeId} {t t' : TypeId} (hu : c.P.underlying t = some (.pointer e)) (hx : ev env x = some (.pointer a)) (hy : ev env y = some (.pointer none)) : OpR c env cs ⟨d, .binOp .eql t x y t', ty, pos, af, g⟩ (.bool a.isNone) := .of_run fun _ w ha hw => by
  have e := run_eqd (P := c.P) (w := w) (fun n => eqd_ptr (a := a) hu n)
  simp only [execOp, ha.eval hx, ha.eval hy, eqGuard, binOp, Sem.run_bind]
  rw [show (if (!true) = true then (Pure.pure () : Sem Unit) else Pure.pure ()) = Pure.pure () from rfl]
  simp only [Sem.run_pure, Result.andThen_ok, e]
theorem OpR.pneq {x y : Operand} {a : Option Addr} {e : TypeId} {t t' : TypeId} (hu : c.P.underlying t = some (.pointer e)) (hx : ev env x = some (.pointer a)) (hy : ev env y = some (.pointer none)) : OpR c env cs ⟨d, .binOp .neq t x y t', ty, pos, af, g⟩ (.bool (!a.isNone)) := .of_run fun _ w ha hw => by
  have e := run_eqd (P := c.P) (w := w) (fun n => eqd_ptr (a := a) hu n)
  simp only [execOp, ha.eval hx, ha.eval hy, eqGuard, binOp, Sem.run_bind]
  rw [show (if (!true) = true then (Pure.pure () : Sem Unit) else Pure.pure ()) = Pure.pure () from rfl]
  simp only [Sem.run_pure, Result.andThen_ok, e]
theorem OpR.sleql {x y : Operand} {a : Option Addr} {k m : Nat} {e : TypeId} {t t' : TypeId} (hu : c.P.underlying t = some (.slice e)) (hx : ev env x = some (.slice a k m)) (hy : ev env y = some (.slice none 0 0)) : OpR c env cs ⟨d, .binOp .eql t x y t', ty, pos, af, g⟩ (.bool a.isNone) := .of_run fun _ w ha hw => by
  have e := run_eqd (P := c.P) (w := w) (fun n => eqd_slice (a := a) (k := k) (m := m) hu n)
  simp only [execOp, ha.eval hx, ha.eval hy, eqGuard, binOp, Sem.run_bind]
  rw [show (if (!true) = true then (Pure.pure () : Sem Unit) else Pure.pure ()) = Pure.pure () from rfl]
  simp only [Sem.run_pure, Result.andThen_ok, e]
theorem OpR.slneq {x y : Operand} {a : Option Addr} {k m : Nat} {e : TypeId} {t t' : TypeId} (hu : c.P.underlying t = some (.slice e)) (hx : ev env x = some (.slice a k m)) (hy : ev env y = some (.slice none 0 0)) : OpR c env cs ⟨d, .binOp .neq t x y t', ty, pos, af, g⟩ (.bool (!a.isNone)) := .of_run fun _ w ha hw => by
  have e := run_eqd (P := c.P) (w := w) (fun n => eqd_slice (a := a) (k := k) (m := m) hu n)
  simp only [execOp, ha.eval hx, ha.eval hy, eqGuard, binOp, Sem.run_bind]
  rw [show (if (!true) = true then (Pure.pure () : Sem Unit) else Pure.pure ()) = Pure.pure () from rfl]
  simp only [Sem.run_pure, Result.andThen_ok, e]

/-! ### Addresses -/
theorem add0 (b o j : Nat) : (⟨b, o, none⟩ : Addr).add j = ⟨b, o + j, none⟩ := by unfold Addr.add; split <;> simp_all
theorem add_add (a : Addr) (i j : Nat) : (a.add i).add j = a.add (i + j) := by
  unfold Addr.add
  by_cases hi : i = 0
  · subst hi; simp
  · by_cases hj : j = 0
    · subst hj; simp
    · rw [if_neg hi, if_neg hj, if_neg (by omega)]; simp [Nat.add_assoc]
theorem add_block (a : Addr) (i : Nat) : (a.add i).block = a.block := by unfold Addr.add; split <;> rfl

section
variable {xd : TypeDesc} {xs : String} {n nb : Nat} {hp cm : Bool} {al fa : Nat} {z : Option Value} {ms : Array Method} {nm tg pk : String} {ft : TypeId} {fo bo : Nat} {em : Bool}
theorem run_fieldAt {t : TypeId} {i : Nat} {a : Addr} {fs : List Field} (hu : P.underlying t = some (.struct fs.toArray)) (hf : fs[i]? = some ⟨nm, ft, fo, em, tg, pk, bo⟩) (hs : ty? P ft = some ⟨xd, xs, n + 1, nb, hp, al, fa, z, cm, ms⟩) :
    (Instr.fieldAt t (.pointer (some a)) i).run P w = .ok (.pointer (some (a.add fo))) w := by
  simp only [Instr.fieldAt, Sem.run_bind, run_und hu, Result.andThen_ok, List.getElem?_toArray, hf, Instr.sureAddr, Sem.run_pure, fieldPlace, run_size hs, Nat.add_one_ne_zero, if_false]
theorem OpR.fieldAddr {x : Operand} {t : TypeId} {i : Nat} {b o : Nat} {fs : List Field} (hu : c.P.underlying t = some (.struct fs.toArray)) (hf : fs[i]? = some ⟨nm, ft, fo, em, tg, pk, bo⟩) (hs : ty? c.P ft = some ⟨xd, xs, n + 1, nb, hp, al, fa, z, cm, ms⟩)
    (hx : ev env x = some (.pointer (some ⟨b, o, none⟩))) : OpR c env cs ⟨d, .fieldAddr t x i, ty, pos, af, g⟩ (.pointer (some ⟨b, o + fo, none⟩)) := .of_run fun _ w ha hw => by
  simp only [execOp, ha.eval hx, Sem.run_bind, run_fieldAt hu hf hs, Result.andThen_ok, add0]; rfl
theorem OpR.fieldAddrA {x : Operand} {t : TypeId} {i : Nat} {a : Addr} {fs : List Field} (hu : c.P.underlying t = some (.struct fs.toArray)) (hf : fs[i]? = some ⟨nm, ft, fo, em, tg, pk, bo⟩) (hs : ty? c.P ft = some ⟨xd, xs, n + 1, nb, hp, al, fa, z, cm, ms⟩)
    (hx : ev env x = some (.pointer (some a))) : OpR c env cs ⟨d, .fieldAddr t x i, ty, pos, af, g⟩ (.pointer (some (a.add fo))) := .of_run fun _ w ha hw => by
  simp only [execOp, ha.eval hx, Sem.run_bind, run_fieldAt hu hf hs, Result.andThen_ok]; rfl

theorem run_indexAt_slice {t e : TypeId} {a : Addr} {m cap : Nat} {k : IntKind} {i : Int} (hu : P.underlying t = some (.slice e)) (hs : ty? P e = some ⟨xd, xs, n, nb, hp, al, fa, z, cm, ms⟩) (h0 : 0 ≤ i) (h1 : i < m) :
    (Instr.indexAt t (.slice (some a) m cap) (.int k i)).run P w = .ok (.pointer (some (a.add (i.toNat * n)))) w := by
  simp only [Instr.indexAt, asIntOf, Sem.run_bind, Sem.run_pure, run_und hu, Result.andThen_ok, run_size hs, if_pos (And.intro h0 h1)]
theorem run_indexAt_array {t e : TypeId} {a : Addr} {m : Nat} {k : IntKind} {i : Int} (hu : P.underlying t = some (.array m e)) (hs : ty? P e = some ⟨xd, xs, n, nb, hp, al, fa, z, cm, ms⟩) (h0 : 0 ≤ i) (h1 : i < m) :
    (Instr.indexAt t (.pointer (some a)) (.int k i)).run P w = .ok (.pointer (some (a.add (i.toNat * n)))) w := by
  simp only [Instr.indexAt, asIntOf, Sem.run_bind, Sem.run_pure, run_und hu, Result.andThen_ok, Instr.sureAddr, run_size hs, if_pos (And.intro h0 h1)]
theorem OpR.indexAddr {x y : Operand} {t e : TypeId} {a : Addr} {m cap : Nat} {k : IntKind} {i : Int} (hu : c.P.underlying t = some (.slice e)) (hs : ty? c.P e = some ⟨xd, xs, n, nb, hp, al, fa, z, cm, ms⟩)
    (hx : ev env x = some (.slice (some a) m cap)) (hy : ev env y = some (.int k i)) (h0 : 0 ≤ i) (h1 : i < m) : OpR c env cs ⟨d, .indexAddr t x y, ty, pos, af, g⟩ (.pointer (some (a.add (i.toNat * n)))) := .of_run fun _ w ha hw => by
  simp only [execOp, ha.eval hx, ha.eval hy, Sem.run_bind, run_indexAt_slice hu hs h0 h1, Result.andThen_ok]; rfl
/-- The index is a natural number. -/
theorem OpR.indexAddrK {x y : Operand} {t e : TypeId} {a : Addr} {m cap : Nat} {k : IntKind} {i : Nat} (hu : c.P.underlying t = some (.slice e)) (hs : ty? c.P e = some ⟨xd, xs, n, nb, hp, al, fa, z, cm, ms⟩)
    (hx : ev env x = some (.slice (some a) m cap)) (hy : ev env y = some (.int k (i : Int))) (h1 : i < m) : OpR c env cs ⟨d, .indexAddr t x y, ty, pos, af, g⟩ (.pointer (some (a.add (i * n)))) := by
  have := OpR.indexAddr (c := c) (env := env) (cs := cs) (ty := ty) (pos := pos) (af := af) (g := g) (d := d) hu hs hx hy (by omega) (by omega)
  rwa [Int.toNat_natCast] at this
/-- Likewise, and the slice begins in a block without a spot. -/
theorem OpR.indexAddrN {x y : Operand} {t e : TypeId} {b o : Nat} {m cap : Nat} {k : IntKind} {i : Nat} (hu : c.P.underlying t = some (.slice e)) (hs : ty? c.P e = some ⟨xd, xs, n, nb, hp, al, fa, z, cm, ms⟩)
    (hx : ev env x = some (.slice (some ⟨b, o, none⟩) m cap)) (hy : ev env y = some (.int k (i : Int))) (h1 : i < m) : OpR c env cs ⟨d, .indexAddr t x y, ty, pos, af, g⟩ (.pointer (some ⟨b, o + i * n, none⟩)) := by
  have := OpR.indexAddrK (c := c) (env := env) (cs := cs) (ty := ty) (pos := pos) (af := af) (g := g) (d := d) hu hs hx hy h1
  rwa [add0] at this
theorem OpR.indexArr {x y : Operand} {t e : TypeId} {b o : Nat} {m : Nat} {k : IntKind} {i : Int} (hu : c.P.underlying t = some (.array m e)) (hs : ty? c.P e = some ⟨xd, xs, n, nb, hp, al, fa, z, cm, ms⟩)
    (hx : ev env x = some (.pointer (some ⟨b, o, none⟩))) (hy : ev env y = some (.int k i)) (h0 : 0 ≤ i) (h1 : i < m) : OpR c env cs ⟨d, .indexAddr t x y, ty, pos, af, g⟩ (.pointer (some ⟨b, o + i.toNat * n, none⟩)) := .of_run fun _ w ha hw => by
  simp only [execOp, ha.eval hx, ha.eval hy, Sem.run_bind, run_indexAt_array hu hs h0 h1, Result.andThen_ok, add0]; rfl
end

theorem OpR.nilCheck {x : Operand} {a : Addr} (hx : ev env x = some (.pointer (some a))) : OpR c env cs ⟨d, .nilCheck x, ty, pos, af, g⟩ (.pointer (some a)) := .of_run fun _ w ha hw => by
  simp only [execOp, ha.eval hx]; rfl

/-! ### Reads -/
theorem run_loadVar1 {t : TypeId} {u : TypeDesc} {a : Addr} {v : Value} (hu : P.underlying t = some u) (hn : aggD u = false) (h : w.cell? a = some v) : (loadVar t a).run P w = .ok v w := by
  simp only [loadVar, Sem.run_bind, run_agg hu, Result.andThen_ok, hn, Bool.false_eq_true, if_false, run_load, h]
theorem run_loadVarA {t : TypeId} {u : TypeDesc} {a : Addr} {l : List Value} (hu : P.underlying t = some u) (hn : aggD u = true) (hs : ty? P t = some ⟨xd, xs, l.length, nb, hp, al, fa, z, cm, ms⟩) (h : ∀ j v, l[j]? = some v → w.cell? (a.add j) = some v) :
    (loadVar t a).run P w = .ok (.agg l.toArray) w := by
  simp only [loadVar, Sem.run_bind, run_agg hu, Result.andThen_ok, hn, if_true, run_size hs, run_loadCells_list w a l h]; rfl

/-- One cell, as whatever is known tells it. -/
theorem OpR.load {x : Operand} {t : TypeId} {u : TypeDesc} {a : Addr} {v : Value} (hu : c.P.underlying t = some u) (hn : aggD u = false) (hx : ev env x = some (.pointer (some a)))
    (h : ∀ w, In c.w0 c.F0 cs w → w.cell? a = some v) : OpR c env cs ⟨d, .load t x, ty, pos, af, g⟩ v := .of_run fun _ w ha hw => by
  simp only [execOp, ha.eval hx, Instr.loadAt, Instr.sureAddr, Sem.run_bind, Sem.run_pure, Result.andThen_ok, run_loadVar1 hu hn (h w hw)]
/-- Several cells. -/
theorem OpR.loadA {x : Operand} {t : TypeId} {u : TypeDesc} {a : Addr} {l : List Value} (hu : c.P.underlying t = some u) (hn : aggD u = true) (hs : ty? c.P t = some ⟨xd, xs, l.length, nb, hp, al, fa, z, cm, ms⟩) (hx : ev env x = some (.pointer (some a)))
    (h : ∀ w, In c.w0 c.F0 cs w → ∀ j v, l[j]? = some v → w.cell? (a.add j) = some v) : OpR c env cs ⟨d, .load t x, ty, pos, af, g⟩ (.agg l.toArray) := .of_run fun _ w ha hw => by
  simp only [execOp, ha.eval hx, Instr.loadAt, Instr.sureAddr, Sem.run_bind, Sem.run_pure, Result.andThen_ok, run_loadVarA hu hn hs (h w hw)]
/-- One cell of a block that is known whole. -/
theorem OpR.loadB (i : Nat) {x : Operand} {t : TypeId} {u : TypeDesc} {b o : Nat} {v : Value} {vs : List Value} {e : TypeId} {fr : Nat × Nat} {r : List Ch} (hu : c.P.underlying t = some u) (hn : aggD u = false) (hx : ev env x = some (.pointer (some ⟨b, o, none⟩)))
    (hb : nth cs i = some (blk b (.cells vs.toArray e fr), r)) (hv : vs[o]? = some v) : OpR c env cs ⟨d, .load t x, ty, pos, af, g⟩ v :=
  .load hu hn hx fun w hw => by
    simp only [World.cell?, hw.blk_heap hb, Option.isSome_none, Bool.false_eq_true, if_false, List.getElem?_toArray, hv]
/-- Several cells of such a block: all of it. -/
theorem OpR.loadBA (i : Nat) {x : Operand} {t : TypeId} {u : TypeDesc} {b : Nat} {l : List Value} {e : TypeId} {fr : Nat × Nat} {r : List Ch} (hu : c.P.underlying t = some u) (hn : aggD u = true) (hx : ev env x = some (.pointer (some ⟨b, 0, none⟩)))
    (hb : nth cs i = some (blk b (.cells l.toArray e fr), r)) (hs : ty? c.P t = some ⟨xd, xs, l.length, nb, hp, al, fa, z, cm, ms⟩) : OpR c env cs ⟨d, .load t x, ty, pos, af, g⟩ (.agg l.toArray) :=
  .loadA hu hn hs hx fun w hw j v hv => by
    rw [add0]
    simp only [World.cell?, hw.blk_heap hb, Option.isSome_none, Bool.false_eq_true, if_false, Nat.zero_add, List.getElem?_toArray, hv]

/-! ### Lengths, fields of values, parts of results -/
theorem OpR.len {x : Operand} {t : TypeId} {e : TypeId} {a : Option Addr} {n cap : Nat} (hu : c.P.underlying t = some (.slice e)) (hx : ev env x = some (.slice a n cap)) :
    OpR c env cs ⟨d, .call ⟨.builtin .len, #[x], #[t]⟩, ty, pos, af, g⟩ (.int .i64 n) := .of_run fun _ w ha hw => by
  simp only [execOp, resolve, invoke, builtin, Builtin.len_, List.map_toArray, List.map_cons, List.map_nil, ha.eval hx, Sem.run_bind, Sem.run_pure, Result.andThen_ok, List.getElem?_toArray, List.getElem?_cons_zero, run_und hu]; rfl
theorem OpR.slen {x : Operand} {t : TypeId} {s : ByteArray} (hu : c.P.underlying t = some .string) (hx : ev env x = some (.string s)) :
    OpR c env cs ⟨d, .call ⟨.builtin .len, #[x], #[t]⟩, ty, pos, af, g⟩ (.int .i64 s.size) := .of_run fun _ w ha hw => by
  simp only [execOp, resolve, invoke, builtin, Builtin.len_, List.map_toArray, List.map_cons, List.map_nil, ha.eval hx, Sem.run_bind, Sem.run_pure, Result.andThen_ok, List.getElem?_toArray, List.getElem?_cons_zero, run_und hu]; rfl
theorem run_part1 {t : TypeId} {u : TypeDesc} {vs : Array Value} {o : Nat} {v : Value} (hu : P.underlying t = some u) (hn : aggD u = false) (hv : vs[o]? = some v) : (part t vs o).run P w = .ok v w := by
  simp only [part, Sem.run_bind, run_agg hu, Result.andThen_ok, hn, Bool.false_eq_true, if_false, hv]; rfl
theorem run_partA {t : TypeId} {u : TypeDesc} {vs : Array Value} {o s : Nat} (hu : P.underlying t = some u) (hn : aggD u = true) (hs : ty? P t = some ⟨xd, xs, s, nb, hp, al, fa, z, cm, ms⟩) : (part t vs o).run P w = .ok (.agg (vs.extract o (o + s))) w := by
  simp only [part, Sem.run_bind, run_agg hu, Result.andThen_ok, hn, if_true, run_size hs]; rfl
theorem OpR.field {x : Operand} {t : TypeId} {i : Nat} {fs : List Field} {u : TypeDesc} {vs : List Value} {v : Value} (hu : c.P.underlying t = some (.struct fs.toArray)) (hf : fs[i]? = some ⟨nm, ft, fo, em, tg, pk, bo⟩) (hu' : c.P.underlying ft = some u) (hn : aggD u = false)
    (hx : ev env x = some (.agg vs.toArray)) (hv : vs[fo]? = some v) : OpR c env cs ⟨d, .field t x i, ty, pos, af, g⟩ v := .of_run fun _ w ha hw => by
  have hv' : vs.toArray[fo]? = some v := by simpa using hv
  simp only [execOp, ha.eval hx, Instr.field, Sem.run_bind, run_und hu, Result.andThen_ok, List.getElem?_toArray, hf, asAgg, Sem.run_pure, run_part1 hu' hn hv']
theorem OpR.fieldA {x : Operand} {t : TypeId} {i : Nat} {fs : List Field} {u : TypeDesc} {vs l : List Value} {s : Nat} (hu : c.P.underlying t = some (.struct fs.toArray)) (hf : fs[i]? = some ⟨nm, ft, fo, em, tg, pk, bo⟩) (hu' : c.P.underlying ft = some u) (hn : aggD u = true)
    (hs : ty? c.P ft = some ⟨xd, xs, s, nb, hp, al, fa, z, cm, ms⟩) (hx : ev env x = some (.agg vs.toArray)) (hl : (vs.drop fo).take s = l) : OpR c env cs ⟨d, .field t x i, ty, pos, af, g⟩ (.agg l.toArray) := .of_run fun _ w ha hw => by
  have e : vs.toArray.extract fo (fo + s) = l.toArray := by rw [← hl]; simp [List.extract_eq_take_drop]
  simp only [execOp, ha.eval hx, Instr.field, Sem.run_bind, run_und hu, Result.andThen_ok, List.getElem?_toArray, hf, asAgg, Sem.run_pure, run_partA hu' hn hs, e]
theorem OpR.extract {x : Operand} {i : Nat} {vs : List Value} {v : Value} (hx : ev env x = some (.tuple vs.toArray)) (hv : vs[i]? = some v) : OpR c env cs ⟨d, .extract x i, ty, pos, af, g⟩ v := .of_run fun _ w ha hw => by
  simp only [execOp, ha.eval hx, Instr.extract, List.getElem?_toArray, hv]; rfl
theorem OpR.index {x y : Operand} {t : TypeId} {s : ByteArray} {k : IntKind} {i : Int} (hu : c.P.underlying t = some .string) (hx : ev env x = some (.string s)) (hy : ev env y = some (.int k i)) (h0 : 0 ≤ i) (h1 : i.toNat < s.size) :
    OpR c env cs ⟨d, .index t x y, ty, pos, af, g⟩ (.int .u8 (s[i.toNat]'h1).toNat) := .of_run fun _ w ha hw => by
  simp only [execOp, ha.eval hx, ha.eval hy, Instr.index, Sem.run_bind, asIntOf, Sem.run_pure, Result.andThen_ok, run_und hu, if_pos h0]
  rw [show s[i.toNat]? = some (s[i.toNat]'h1) from by simp [h1]]
  rfl
theorem OpR.makeFunc {f : Fn} {x y : List Operand} {u v : List Value} (hx : x.mapM (ev env) = some u) (hy : y.mapM (ev env) = some v) : OpR c env cs ⟨d, .makeFunc f x.toArray y.toArray, ty, pos, af, g⟩ (.func f u.toArray v.toArray) := .of_run fun a w ha hw => by
  have key : ∀ (x : List Operand) (u : List Value), x.mapM (ev env) = some u → x.map a.eval = u := by
    intro x
    induction x with
    | nil => intro u h; simpa using h
    | cons o x ih =>
      intro u h
      rw [List.mapM_cons] at h
      cases ho : ev env o with
      | none => rw [ho] at h; cases h
      | some v' =>
        rw [ho] at h
        cases hm : x.mapM (ev env) with
        | none => rw [hm] at h; cases h
        | some u' =>
          rw [hm] at h
          simp only [Option.bind_eq_bind, Option.bind_some, Option.pure_def, Option.some.injEq] at h
          subst h
          rw [List.map_cons, ha.eval ho, ih u' hm]
  simp only [execOp, Instr.makeFunc, List.map_toArray, key x u hx, key y v hy]; rfl
theorem OpR.conv {x : Operand} {k k' : IntKind} {n : Int} {src dst : TypeId} {u : TypeDesc} (hs : c.P.underlying src = some (.int k')) (hd : c.P.underlying dst = some (.int k)) (hx : ev env x = some (.int k' n)) :
    OpR c env cs ⟨d, .convert src dst x, ty, pos, af, g⟩ (.int k (k.wrap n)) := .of_run fun _ w ha hw => by
  simp only [execOp, ha.eval hx, convert, Sem.run_bind, run_und hs, run_und hd, Result.andThen_ok, Conv.intToInt, Sem.run_pure]

/-! ### Calls of functions that turn nothing -/
def args? (env : Env) : List Operand → Option (List Value)
  | [] => some []
  | x :: r => match ev env x with
    | some v => match args? env r with
      | some l => some (v :: l)
      | none => none
    | none => none
theorem args?_eval {n : Nat} {a : Act} (ha : Ag n env a) : ∀ {l : List Operand} {vs : List Value}, args? env l = some vs → l.map a.eval = vs := by
  intro l
  induction l with
  | nil => intro vs h; simpa [args?] using h
  | cons x r ih =>
    intro vs h
    simp only [args?] at h
    cases hx : ev env x with
    | none => rw [hx] at h; cases h
    | some v =>
      rw [hx] at h
      simp only at h
      cases hr : args? env r with
      | none => rw [hr] at h; cases h
      | some l => rw [hr] at h; simp only [Option.some.injEq] at h; subst h; rw [List.map_cons, ha.eval hx, ih hr]

/-- What a call of a function value comes to. -/
theorem run_call {f : FuncId} {fn : Func} (hf : P.funcs[f]? = some fn) (hb : fn.body.isSome = true) (hn : (fn.name == "runtime.NumGoroutine") = false) (vs : Array Value) : (callFunc f vs).run P w = .ok (.enter f vs) w := by
  have : fn.body.isNone = false := by cases h : fn.body <;> simp_all
  simp only [callFunc, Sem.run_bind, run_program, Result.andThen_ok, hf, hn, this, Bool.false_eq_true, if_false]; rfl
theorem run_callOp {a : Act} {x : Operand} {l : List Operand} {tys : Array TypeId} {f : FuncId} {fn : Func} {first cap vs : List Value} (hf : P.funcs[f]? = some fn) (hb : fn.body.isSome = true) (hn : (fn.name == "runtime.NumGoroutine") = false)
    (hx : a.eval x = .func (.func f) first.toArray cap.toArray) (hl : l.map a.eval = vs) : (execOp a.eval ⟨d, .call ⟨.value x, l.toArray, tys⟩, ty, pos, af, g⟩).run P w = .ok (.enter f (first ++ vs ++ cap).toArray) w := by
  simp only [execOp, resolve, hx, Deferred.ofValue, Sem.run_bind, Sem.run_pure, Result.andThen_ok, invoke, List.map_toArray, hl, List.append_toArray, run_call hf hb hn]

/-- A function that turns nothing and makes nothing that is seen. -/
abbrev Pure (P : Program) (f : FuncId) (args : Array Value) (w : World) (v : Value) : Prop := Calls P f args w fun e w' => e = .returned v ∧ Keep Fp.no w w'

theorem OpQ.call {x : Operand} {l : List Operand} {tys : Array TypeId} {f : FuncId} {fn : Func} {vs : List Value} {v : Value} {first cap : Array Value} {ws : Array Value} (hx : ev env x = some (.func (.func f) first cap)) (hl : args? env l = some vs)
    (hw : (first.toList ++ vs ++ cap.toList).toArray = ws) (hf : c.P.funcs[f]? = some fn) (hb : fn.body.isSome = true) (hn : (fn.name == "runtime.NumGoroutine") = false)
    (h : ∀ w, In c.w0 c.F0 cs w → Pure c.P f ws w v) : OpQ c env cs ⟨d, .call ⟨.value x, l.toArray, tys⟩, ty, pos, af, g⟩ v := fun a w ha hi => by
  subst hw
  have e := run_callOp (P := c.P) (w := w) (d := d) (ty := ty) (pos := pos) (af := af) (g := g) (x := x) (tys := tys) (first := first.toList) (cap := cap.toList) hf hb hn (by rw [ha.eval hx]) (args?_eval ha hl)
  simp only [Oper.quietAt, e, Oper.quietUpon, true_and]
  exact (h w hi).mono fun e w' ⟨he, hk⟩ => ⟨he, hi.keep hk⟩
end
end Go.Sx
