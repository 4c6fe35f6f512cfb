/- Plain: how many cycles moves have, as the document counts them. -/
import Derived.Test.YtkbggjhfiemhoaaFrq
namespace Go.Proofs.Ytkbggjhfiemhoaa
def fromStep (fr : List Int) (m : Mv) : List Int := if m.1 = m.2 then fr else fr.set m.1.toNat m.2
def fromF (l : List Mv) : List Int := l.foldl fromStep (List.replicate 16 (-1))
def cwalk (fr : List Int) (i : Int) : Nat → Int → Bool → Bool → Bool
  | 0, _, back, least => back && least
  | n + 1, at_, back, least => if at_ < 0 ∨ back = true then back && least else
    cwalk fr i n (fr.getD at_.toNat (-1)) (decide (fr.getD at_.toNat (-1) = i)) (least && (decide (fr.getD at_.toNat (-1) < 0) || decide (i ≤ fr.getD at_.toNat (-1))))
def cyc1 (fr : List Int) (i : Nat) : Bool := cwalk fr i 16 i false true
def cycTo (fr : List Int) (n : Nat) : Nat := ((List.range n).filter (cyc1 fr)).length
def cyclesF (l : List Mv) : Int := cycTo (fromF l) 16
theorem cycTo_succ (fr : List Int) (n : Nat) : cycTo fr (n + 1) = cycTo fr n + (if cyc1 fr n then 1 else 0) := by
  unfold cycTo
  rw [List.range_succ, List.filter_append, List.length_append]
  congr 1
  by_cases h : cyc1 fr n <;> simp [h]
theorem cycTo_le (fr : List Int) (n : Nat) : cycTo fr n ≤ n := Nat.le_trans (List.length_filter_le _ _) (by simp)
/-- A register file: numbers from -1 to 15, sixteen of them. -/
def Regs (fr : List Int) : Prop := fr.length = 16 ∧ ∀ v ∈ fr, -1 ≤ v ∧ v ≤ 15
theorem Regs.start : Regs (List.replicate 16 (-1)) := ⟨by simp, fun v hv => by have := (List.mem_replicate.1 hv).2; omega⟩
theorem Regs.step {fr : List Int} {m : Mv} (h : Regs fr) (hm : okReg m.2 = true) : Regs (fromStep fr m) := by
  unfold fromStep
  split
  · exact h
  · have hr : 0 ≤ m.2 ∧ m.2 ≤ 15 := by simpa [okReg] using hm
    refine ⟨by simpa using h.1, fun v hv => ?_⟩
    rcases List.mem_or_eq_of_mem_set hv with hv | rfl
    · exact h.2 v hv
    · omega
theorem Regs.fold {l : List Mv} : ∀ {fr : List Int}, Regs fr → (∀ m ∈ l, okReg m.2 = true) → Regs (l.foldl fromStep fr) := by
  induction l with
  | nil => intro fr h _; exact h
  | cons m r ih => intro fr h hm; exact ih (h.step (hm m (by simp))) fun m' hm' => hm m' (List.mem_cons_of_mem _ hm')
theorem Regs.get {fr : List Int} (h : Regs fr) {n : Nat} (hn : n < 16) : ∃ v, fr[n]? = some v ∧ fr.getD n (-1) = v ∧ -1 ≤ v ∧ v ≤ 15 := by
  have hlt : n < fr.length := by rw [h.1]; exact hn
  refine ⟨fr[n], List.getElem?_eq_getElem hlt, ?_, h.2 _ (List.getElem_mem hlt)⟩
  rw [List.getD_eq_getElem?_getD, List.getElem?_eq_getElem hlt]; rfl
theorem fold_take {l : List Mv} {i : Nat} {m : Mv} (hm : l[i]? = some m) (fr : List Int) : (l.take (i + 1)).foldl fromStep fr = fromStep ((l.take i).foldl fromStep fr) m := by
  obtain ⟨hi, rfl⟩ := List.getElem?_eq_some_iff.1 hm
  rw [List.take_succ_eq_append_getElem hi, List.foldl_append]; rfl
end Go.Proofs.Ytkbggjhfiemhoaa
