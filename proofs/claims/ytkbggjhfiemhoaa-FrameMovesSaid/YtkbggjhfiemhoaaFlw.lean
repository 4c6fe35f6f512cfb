/- FrameMoves returns true for every slice of moves (nil too) and every spare register, and leaves its arguments as they were. No condition. -/
import Derived.Test.YtkbggjhfiemhoaaRows
import Derived.Test.YtkbggjhfiemhoaaFse
import Derived.ProofKit
import Derived.OpenShut
import Derived.SizedLaws
import Derived.Below
import Derived.Deep.SlicePairs
namespace Go.Proofs.Ytkbggjhfiemhoaa.FrameMovesLaw
open Go.ChangeShapes Go.WideShapes Go.ChangeAt Go.RowKit Go.Sx
set_option linter.unusedVariables false
theorem own : ownKnob Try.prog.godebug = none := by kernel_rfl
theorem laidOut : laidOutB Try.prog = true := by kernel_rfl
def zi : Value → Int
  | .int _ n => n
  | _ => 0
theorem trod_int_inv {H : Type} {enc : TypeId × Value → H} {P : Program} {w : World} {base : Nat} {sp : Nat → Bool} {hd : Bool} {n : Nat} {t : TypeId} {k : IntKind} {v : Value} {x : DataW H × List MemPlace} (hu : P.underlying t = some (.int k)) (h : DataW.trod enc P w base sp hd n t [v] = some x) : v = .int k (zi v) := by
  cases n with
  | zero => simp [DataW.trod] at h
  | succ n =>
    unfold DataW.trod at h
    simp only [hu] at h
    cases v <;> simp at h
    obtain ⟨⟨rfl, _⟩, _⟩ := h
    rfl
theorem bytesMove : Try.prog.bytesOf 27 = 16 := by kernel_rfl
/-- The slice that came in. -/
def IsMoves (w : World) (a : Option Addr) (len cap : Nat) (l : List Mv) : Prop := l.length = len ∧ RowsAt w a 2 (l.map mvRow) ∧ (a = none → cap = 0) ∧ l.length * 16 ≤ 140737488351232
set_option maxRecDepth 100000 in
theorem lifted (os : Os) (started : os.Started) (H : Type) (enc : TypeId × Value → H) :
    ReturnsInHanded {} Try.checked os 3 .any (Rows.frameMovesSpec.pre6 enc Try.prog Try.f3 Rows.frameMovesRow.domain false) (Rows.frameMovesSpec.post enc Try.prog Try.f3 false true false false) := by
  refine returnsInHanded_of_change_sized (C := Try.checked) own started (by kernel_rfl) Try.func3
    (ChangeSpec.witness6 (enc := enc) (C := Try.checked) false ⟨#[], #[.slice none 0 0, .int .i64 0], []⟩ 8 (by kernel_rfl) (by kernel_rfl) (by kernel_rfl) (by kernel_rfl)) ?_
  intro W base args ds gs before hval0 hW hcnd hsz0 _
  have hsz : (DataW.weightsEach Try.prog (Try.f3.params.toList ++ Rows.frameMovesSpec.plain.varTypes Try.prog) (ds ++ gs)).all (· ≤ reachBytes) = true := hsz0
  have hval : ∀ (j : Nat) t v, Try.f3.params[j]? = some t → args[j]? = some v → Value.okWide Try.prog W .any base t v := hval0
  have hW' := hW
  obtain ⟨p, q, hA0, hV, rfl, hfz, hnd⟩ := hW
  have hA : DataW.TrodAll enc Try.prog W 0 (fun _ => true) true Try.f3.params.toList args.toList ds p := hA0
  rw [Try.params3] at hA hval hsz
  obtain ⟨v0, vs0, d0, ds0, p0, q0, hargs, rfl, rfl, h0, r0⟩ := trodAll_cons hA
  obtain ⟨v1, vs1, d1, ds1, p1, q1, rfl, rfl, rfl, h1, r1⟩ := trodAll_cons r0
  obtain ⟨rfl, rfl, rfl⟩ := trodAll_nil r1
  obtain rfl : args = #[v0, v1] := by cases args; simp_all
  obtain ⟨rfl, rfl⟩ := trodVars_none hV
  obtain ⟨a0, len0, cap0, rfl⟩ := okWide_slice Try.underlying22 (hval 0 22 v0 rfl rfl)
  have k0 := h0
  have lt0 : ∀ x ∈ p0, x.block < W.heap.size := by obtain ⟨m, hm⟩ := k0; exact DataW.trod_lt m _ _ _ hm
  obtain ⟨l, hl0, hl1, hl2, hl3⟩ : ∃ l, IsMoves W a0 len0 cap0 l := by
    obtain ⟨fuel, hf⟩ := h0
    rcases Go.Deep.open_slice_pairs Try.underlying22 Try.underlying27 (by kernel_rfl) rfl rfl (by kernel_rfl) (by kernel_rfl) hf with ⟨hcs, _⟩ | ⟨a, len, cap, m, n, V0, V1, D0, D1, P0, P1, hcs, _, hl, hm, hmm, hx, hcell⟩
    · simp [Value.cells] at hcs
      obtain ⟨rfl, rfl, rfl⟩ := hcs
      exact ⟨[], rfl, fun i row h => by simp at h, fun _ => rfl, by simp⟩
    · simp [Value.cells] at hcs
      obtain ⟨rfl, rfl, rfl⟩ := hcs
      simp only [if_true] at hmm
      obtain ⟨rfl, _⟩ := Prod.mk.inj hx
      have hz := sized_slice hsz (j := 0) (t := 22) (e := 27) rfl rfl Try.underlying22
      rw [bytesMove] at hz
      simp only [List.length_map, List.length_range, reachBytes] at hz
      refine ⟨(List.range len0).map fun i => (zi (V0 i), zi (V1 i)), by simp, fun i row hr => ?_, fun h => (by cases h), (by simp; omega)⟩
      rw [List.map_map, List.getElem?_map] at hr
      by_cases hi : i < len0
      · rw [List.getElem?_range hi] at hr
        obtain rfl := Option.some.inj hr
        obtain ⟨c0, c1, t0, t1⟩ := hcell i (by omega)
        have e0 := trod_int_inv Try.underlying3 t0
        have e1 := trod_int_inv Try.underlying3 t1
        refine ⟨rfl, a, rfl, fun j v hj => ?_⟩
        match j, hj with
        | 0, hj =>
          obtain rfl := Option.some.inj hj
          rw [Nat.add_zero, c0, e0]
        | 1, hj =>
          obtain rfl := Option.some.inj hj
          rw [c1, e1]
      · rw [List.getElem?_eq_none (by simpa using hi)] at hr; cases hr
  obtain ⟨a1, rfl, rfl, rfl, w1⟩ := open_int Try.underlying3 (hval 1 3 v1 rfl rfl) h1
  clear hA0 hval0 hsz0 hsz
  subst hl0
  refine (law_calls a0 cap0 l a1 W hl1 hl2 (by omega)).mono fun e W' ⟨he, bel⟩ => ?_
  subst he
  have bel := bel.below
  exact ⟨_, rfl, _, _, _, [], _, [], hW', trodAll_mk1 (shut_bool Try.underlying4 _), (trodAll_cons_mk (Below.trod laidOut (by kernel_rfl) (of_decide_eq_true (by kernel_rfl)) k0 bel lt0) (trodAll_cons_mk (shut_int Try.underlying3 w1) trodAll_mk0)), rfl, bel.frame _, fun h => by cases h⟩
theorem over : Rows.frameMovesRow.holds Try.pinned (OpenSpec.ofChange Rows.frameMovesSpec) :=
  OpenClaim.holds_of_wide 3 Try.f3 rfl rfl rfl rfl rfl rfl rfl ⟨rfl, rfl, rfl, rfl, rfl⟩ rfl rfl rfl rfl rfl (by kernel_rfl) Try.func3 (by kernel_rfl)
    (of_decide_eq_true (by kernel_rfl)) (by unfold Func.isWrapper; first | (rw [if_pos (by decide +kernel)]; kernel_rfl) | (rw [if_neg (by decide +kernel)]; exact ⟨rfl, rfl⟩))
    (fun os started H enc _ => lifted os started H enc)
end Go.Proofs.Ytkbggjhfiemhoaa.FrameMovesLaw
namespace Go.Proofs.Ytkbggjhfiemhoaa
/-- The row, under a short name, for the claim. -/
theorem frameMoves_holds : Rows.FrameMovesSaid := FrameMovesLaw.over
end Go.Proofs.Ytkbggjhfiemhoaa
