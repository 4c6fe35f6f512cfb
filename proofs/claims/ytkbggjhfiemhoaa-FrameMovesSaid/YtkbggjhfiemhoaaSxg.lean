/- make([]T, n), and '==' of structs. -/
import Derived.Test.YtkbggjhfiemhoaaSxf
import Derived.Laws.StructEq
namespace Go.Sx
set_option linter.unusedVariables false
set_option linter.unusedSimpArgs false
section
variable {c : Cx} {Q : Exit → Act → World → Prop} {env : Env} {cs S : List Ch} {ops : Array Oper} {rest : List Oper} {ty : TypeId} {pos : String} {af : Array Edge} {g : Option (Nat × Bool)}
variable {xd : TypeDesc} {xs : String} {nb : Nat} {hp : Bool} {al fa : Nat} {cm : Bool} {ms : Array Method}
variable {op : BinOp} {t t' : TypeId} {d : Option Tmp}
theorem WL.makeSlice {d : Nat} {x y : Operand} {e : TypeId} {z : Value} {nn m cap : Nat} {kx ky : IntKind} (hu : c.P.underlying t = some (.slice e)) (hz : ty? c.P e = some ⟨xd, xs, nn, nb, hp, al, fa, some z, cm, ms⟩)
    (hx : ev env x = some (.int kx (m : Int))) (hy : ev env y = some (.int ky (cap : Int))) (hle : m ≤ cap) (hb : nb * cap ≤ 281474976710656) (h63 : cap ≤ 9223372036854775807) {zs : List Value} (hzs : madeCells z.cells (cap * nn) = zs.toArray) (hg : gd ops env g = some true) (hn : Nat.blt d c.n = true)
    (h : ∀ b, c.w0.heap.size ≤ b → WL c ops Q rest ((d, .slice (some ⟨b, 0, none⟩) m cap) :: env) (blk b (.cells zs.toArray e (0, 0)) :: cs)) : WL c ops Q (⟨some d, .makeSlice t x y, ty, pos, af, g⟩ :: rest) env cs :=
  WL.run hg rfl hn fun a w ha hw => by
    have hb' : ((⟨xd, xs, nn, nb, hp, al, fa, some z, cm, ms⟩ : TypeInfo).bytes : Int) * (cap : Int) ≤ 281474976710656 := by
      have : ((nb * cap : Nat) : Int) ≤ 281474976710656 := by omega
      rwa [Int.natCast_mul] at this
    have e1 := run_make (P := c.P) w t e _ z hu (ty?_info hz) rfl kx ky m cap (by omega) (by omega) hb' (by omega)
    refine ⟨_, _, _, ?_, hw.alloc (.cells zs.toArray e), h _ hw.size⟩
    simp only [execOp, ha.eval hx, ha.eval hy, Sem.run_bind, e1, Result.andThen_ok, Int.toNat_natCast, ← hzs]; rfl
theorem madeCells_one {z : Value} (hz : z.cells = #[z]) (n : Nat) : madeCells z.cells n = (List.replicate n z).toArray := by
  rw [hz]
  apply Array.ext
  · simp [madeCells]
  · intro i h1 h2
    simp [madeCells, Nat.mod_one]
variable {s : Nat} {e : TypeId} {v : Value} {rows : List (List Value)} {r : List Ch} {gu : Option (Nat × Bool)}
theorem WL.own_front (i : Nat) {p : Ch} (hb : nth cs i = some (p, r)) (h : WL c ops Q rest env (p :: r)) : WL c ops Q rest env cs := fun a w ha hw => h a w ha (hw.nth hb)
/-- append of a slice that came in, empty or not. -/
theorem WL.appendRows (i : Nat) {d : Nat} {x y : Operand} {t : TypeId} {A : Option Addr} {m q : Nat} {news : List (List Value)} {z : Value} {N : Nat} (ht : c.P.underlying t = some (.slice e)) (hz : ty? c.P e = some ⟨xd, xs, s, nb, hp, al, fa, some z, cm, ms⟩) (hzs : z.cells.size = s) (hsz : 0 < s)
    (hx : ev env x = some v) (hy : ev env y = some (.slice A m q)) (hA : A = none → q = 0) (hb : nth cs i = some (own e s v rows, r)) (hm : news.length = m) (h1 : news.flatten.all (·.oneCell') = true)
    (hsrc : ∀ w, In c.w0 c.F0 cs w → RowsAt w A s news) (hr : ∀ l ∈ news, l.length = s) (hN : rows.length + m = N) (hbytes : N * nb ≤ 140737488355328) (hnb : 0 < nb) (hg : gd ops env gu = some true) (hn : Nat.blt d c.n = true)
    (h : ∀ A cap, WL c ops Q rest ((d, .slice A N cap) :: env) (own e s (.slice A N cap) (rows ++ news) :: r)) : WL c ops Q (⟨some d, .call ⟨.builtin .append, #[x, y], #[t, t]⟩, ty, pos, af, gu⟩ :: rest) env cs := by
  cases A with
  | some B => exact WL.append i ht hz hzs hsz hx hy hb hm hr h1 (fun w hw j u hj => (hsrc w hw).flat j u hj) hN hbytes hnb hg hn h
  | none =>
    obtain rfl := hA rfl
    refine WL.tell (p := news = []) (fun w hw => (hsrc w hw).none) ?_
    rintro rfl
    obtain rfl : m = 0 := hm.symm
    refine WL.append_none i ht hz hx hy hb hg hn fun A' cap' hv => ?_
    subst hv
    have := h A' cap'
    rw [← hN, Nat.add_zero, List.append_nil] at this
    exact WL.own_front i hb this
/-- One field's '=='. -/
def eqv (u : TypeDesc) (x y : Value) : Option Bool :=
  match u, x, y with
  | .int _, .int k a, .int k' b => if k = k' then some (decide (a = b)) else none
  | .bool, .bool a, .bool b => some (a == b)
  | .string, .string a, .string b => some (a.toList == b.toList)
  | _, _, _ => none
def eqL (P : Program) : List Field → List Value → List Value → Option Bool
  | [], _, _ => some true
  | f :: fs, x, y => match P.underlying f.type, x[f.offset]?, y[f.offset]? with
    | some u, some a, some b => match fs with
      | [] => eqv u a b
      | _ :: _ => match eqv u a b, eqL P fs x y with
        | some r, some s => some (r && s)
        | _, _ => none
    | _, _, _ => none
theorem eqv_run {P : Program} {w : World} {k : Nat} {t : TypeId} {u : TypeDesc} {x y : Value} {r : Bool} (hu : P.underlying t = some u) (h : eqv u x y = some r) : (Op.equalIn (k + 1) t x y).run P w = .ok r w ∧ aggD u = false := by
  unfold eqv at h
  split at h
  · rename_i k1 a k' b
    split at h
    · rename_i hk; subst hk; cases h
      exact ⟨by rw [run_equalIn_int (h := hu)]; rfl, rfl⟩
    · cases h
  · cases h; exact ⟨run_equalIn_bool' _ _ _ _ _ hu, rfl⟩
  · cases h
    exact ⟨run_equalIn_string _ _ _ _ _ hu, rfl⟩
  · cases h
theorem eqL_run {P : Program} {w : World} {k : Nat} {x y : List Value} : ∀ {fs : List Field} {r : Bool}, (fs.all fun f => !(f.name == "_")) = true → eqL P fs x y = some r → (Op.eqFields (k + 1) x.toArray y.toArray fs).run P w = .ok r w := by
  intro fs
  induction fs with
  | nil => intro r _ h; cases h; simp [Op.eqFields]
  | cons f fs ih =>
    intro r hn h
    rw [List.all_cons, Bool.and_eq_true] at hn
    have hn' : f.name ≠ "_" := by simpa using hn.1
    unfold eqL at h
    split at h
    · rename_i u a b hu ha hb
      have pa : aggD u = false → (part f.type x.toArray f.offset).run P w = .ok a w := fun hg => run_part1 hu hg (by simpa using ha)
      have pb : aggD u = false → (part f.type y.toArray f.offset).run P w = .ok b w := fun hg => run_part1 hu hg (by simpa using hb)
      have key : ∀ {r1 s1 : Bool}, eqv u a b = some r1 → eqL P fs x y = some s1 → (Op.eqFields (k + 1) x.toArray y.toArray (f :: fs)).run P w = .ok (r1 && s1) w := fun {r1 s1} h1 h2 => by
        obtain ⟨e1, e2⟩ := eqv_run (w := w) (k := k) hu h1
        have e3 := ih hn.2 h2
        rw [Op.eqFields]
        simp only [if_pos hn', Sem.run_bind, pa e2, pb e2, e1, Result.andThen_ok]
        cases r1
        · simp
        · simpa using e3
      split at h
      · rename_i hfs
        have := key h (s1 := true) rfl
        rwa [Bool.and_true] at this
      · split at h
        · rename_i h1 h2
          cases h
          exact key h1 h2
        · cases h
    · cases h
theorem OpR.aeql {x y : Operand} {fs : List Field} {l l' : List Value} {b : Bool} (hu : c.P.underlying t = some (.struct fs.toArray)) (hst : c.P.stoodInHeld t = false) (hgt : c.P.eqGuardType c.P.depth t = false) (hn : (fs.all fun f => !(f.name == "_")) = true)
    (hx : ev env x = some (.agg l.toArray)) (hy : ev env y = some (.agg l'.toArray)) (he : eqL c.P fs l l' = some b) : OpR c env cs ⟨d, .binOp .eql t x y t', ty, pos, af, g⟩ (.bool b) := .of_run fun _ w ha hw => by
  have hf : c.P.fieldsOf t = fs.toArray := by simp [Program.fieldsOf, hu]
  have e1 := run_equalIn_struct (P := c.P) w 9999 t l.toArray l'.toArray (by rw [hf]; exact hu) hst
  rw [hf] at e1
  simp only [execOp, ha.eval hx, ha.eval hy, Sem.run_bind, run_eqGuard_agg w .eql t x y _ _ hgt, Result.andThen_ok, run_eql_struct, e1, eqL_run (k := 9998) hn he]; rfl
theorem OpR.aneq {x y : Operand} {fs : List Field} {l l' : List Value} {b : Bool} (hu : c.P.underlying t = some (.struct fs.toArray)) (hst : c.P.stoodInHeld t = false) (hgt : c.P.eqGuardType c.P.depth t = false) (hn : (fs.all fun f => !(f.name == "_")) = true)
    (hx : ev env x = some (.agg l.toArray)) (hy : ev env y = some (.agg l'.toArray)) (he : eqL c.P fs l l' = some b) : OpR c env cs ⟨d, .binOp .neq t x y t', ty, pos, af, g⟩ (.bool !b) := .of_run fun _ w ha hw => by
  have hf : c.P.fieldsOf t = fs.toArray := by simp [Program.fieldsOf, hu]
  have e1 := run_equalIn_struct (P := c.P) w 9999 t l.toArray l'.toArray (by rw [hf]; exact hu) hst
  rw [hf] at e1
  simp only [execOp, ha.eval hx, ha.eval hy, Sem.run_bind, run_eqGuard_agg w .neq t x y _ _ hgt, Result.andThen_ok, run_neq_struct, e1, eqL_run (k := 9998) hn he]; rfl
end
theorem Hold.nil {w : World} {F : Fp} (h : Hold [] w F) : F = Fp.no := funext fun k => propext ⟨fun h' => (h k h').elim, fun h' => h'.elim⟩
/-- What a call of a function that needs no part is told. -/
theorem Makes.no {P : Program} {f : FuncId} {ws : Array Value} {w : World} {F : Fp} {post : Value → List Ch → Prop} (hF : Hold ([] : List Ch) w F) (h : Makes P f ws w Fp.no post) : Makes P f ws w F post := by
  rw [hF.nil]; exact h
/-- A block that is known whole, handed on to be read as rows. -/
theorem In.blk_rows {w0 w : World} {F0 : Fp} {cs r : List Ch} {i b s : Nat} {vs : List Value} {e : TypeId} {fr : Nat × Nat} {rows : List (List Value)} (h : In w0 F0 cs w) (hn : Sx.nth cs i = some (blk b (.cells vs.toArray e fr), r)) (hv : vs = rows.flatten) (hs : ∀ r ∈ rows, r.length = s) : RowsAt w (some ⟨b, 0, none⟩) s rows := fun k row hk =>
  ⟨hs row (List.mem_of_getElem? hk), _, rfl, fun j u hj => by rw [add0, Nat.zero_add]; exact h.blk_cell hn (by rw [hv]; exact flat_get hs hk hj)⟩
end Go.Sx
