/- Plain: what may be moved, said otherwise. -/
import Derived.Test.YtkbggjhfiemhoaaFrp
namespace Go.Proofs.Ytkbggjhfiemhoaa
def okMv (spare : Int) (m : Mv) : Bool := okReg m.1 && (okReg m.2 && (!decide (m.1 = spare) && !decide (m.2 = spare)))
theorem mayGo_iff {spare : Int} : ∀ {l : List Mv} {s : List Bool}, s.length = 16 → (mayGo spare s l = true ↔ (∀ m ∈ l, okMv spare m = true ∧ s.getD m.1.toNat false = false) ∧ l.Pairwise fun a b => a.1 ≠ b.1) := by
  intro l
  induction l with
  | nil => intro s _; simp [mayGo]
  | cons m r ih =>
    intro s hs
    rw [mayGo]
    by_cases hb : bad spare s m = true
    · rw [if_pos hb]
      refine ⟨fun h => (by cases h), fun h => ?_⟩
      have := h.1 m (by simp)
      simp only [bad, Bool.or_eq_true, Bool.not_eq_true', decide_eq_true_eq] at hb
      simp only [okMv, Bool.and_eq_true, Bool.not_eq_true', decide_eq_false_iff_not] at this
      obtain ⟨⟨a1, a2, a3, a4⟩, a5⟩ := this
      rw [a1, a2, a5] at hb
      simp [a3, a4] at hb
    · rw [if_neg hb, ih (by simpa using hs)]
      have hb' : bad spare s m = false := by simpa using hb
      simp only [bad, Bool.or_eq_false_iff, Bool.not_eq_false', decide_eq_false_iff_not] at hb'
      obtain ⟨⟨⟨⟨h1, h2⟩, h3⟩, h4⟩, h5⟩ := hb'
      have hr : 0 ≤ m.1 ∧ m.1 ≤ 15 := by simpa [okReg] using h1
      have hset : ∀ m', okMv spare m' = true → ((s.set m.1.toNat true).getD m'.1.toNat false = false ↔ s.getD m'.1.toNat false = false ∧ m.1 ≠ m'.1) := by
        intro m' hm'
        simp only [okMv, Bool.and_eq_true] at hm'
        have hr' : 0 ≤ m'.1 ∧ m'.1 ≤ 15 := by simpa [okReg] using hm'.1
        rw [List.getD_eq_getElem?_getD, List.getD_eq_getElem?_getD, List.getElem?_set]
        by_cases he : m.1.toNat = m'.1.toNat
        · rw [if_pos he, if_pos (by omega)]
          simp
          intro _; omega
        · rw [if_neg he]
          refine ⟨fun h => ⟨h, fun e => he (by rw [e])⟩, fun h => h.1⟩
      constructor
      · rintro ⟨a1, a2⟩
        refine ⟨fun m' hm' => ?_, List.pairwise_cons.2 ⟨fun m' hm' => ?_, a2⟩⟩
        · rcases List.mem_cons.1 hm' with rfl | hm'
          · exact ⟨by simp [okMv, h1, h2, h3, h4], h5⟩
          · exact ⟨(a1 m' hm').1, ((hset m' (a1 m' hm').1).1 (a1 m' hm').2).1⟩
        · exact ((hset m' (a1 m' hm').1).1 (a1 m' hm').2).2
      · rintro ⟨a1, a2⟩
        obtain ⟨a3, a4⟩ := List.pairwise_cons.1 a2
        refine ⟨fun m' hm' => ?_, a4⟩
        have := a1 m' (List.mem_cons_of_mem _ hm')
        exact ⟨this.1, (hset m' this.1).2 ⟨this.2, a3 m' hm'⟩⟩
theorem mayB_iff {l : List Mv} {spare : Int} : mayB l spare = true ↔ okReg spare = true ∧ (∀ m ∈ l, okMv spare m = true) ∧ l.Pairwise fun a b => a.1 ≠ b.1 := by
  have hz : ∀ k, (List.replicate 16 false).getD k false = false := fun k => by
    rw [List.getD_eq_getElem?_getD, List.getElem?_replicate]; split <;> rfl
  rw [mayB, Bool.and_eq_true, mayGo_iff (by simp)]
  simp only [hz, and_true]
/-- Right's state. -/
def RightTo (l : List Mv) (spare : Int) (i : Nat) : Prop := ∀ j, j < i → ∀ m, l[j]? = some m → okMv spare m = true ∧ ∀ k, k < j → ∀ m', l[k]? = some m' → m'.1 ≠ m.1
theorem RightTo.done {l : List Mv} {spare : Int} (h : RightTo l spare l.length) (hs : okReg spare = true) : mayB l spare = true := by
  rw [mayB_iff]
  refine ⟨hs, fun m hm => ?_, ?_⟩
  · obtain ⟨j, hj⟩ := List.getElem?_of_mem hm
    exact (h j (List.getElem?_eq_some_iff.1 hj).1 m hj).1
  · rw [List.pairwise_iff_getElem]
    intro k j hk hj hkj
    exact (h j hj _ (List.getElem?_eq_getElem hj)).2 k hkj _ (List.getElem?_eq_getElem hk)
theorem mayB_bad {l : List Mv} {spare : Int} {i : Nat} {m : Mv} (hm : l[i]? = some m) (hb : okMv spare m = false) : mayB l spare = false := by
  cases h : mayB l spare with
  | false => rfl
  | true =>
    have := (mayB_iff.1 h).2.1 m (List.mem_of_getElem? hm)
    rw [hb] at this; cases this
theorem mayB_twice {l : List Mv} {spare : Int} {i k : Nat} {m m' : Mv} (hm : l[i]? = some m) (hm' : l[k]? = some m') (hk : k < i) (he : m'.1 = m.1) : mayB l spare = false := by
  cases h : mayB l spare with
  | false => rfl
  | true =>
    have := (mayB_iff.1 h).2.2
    rw [List.pairwise_iff_getElem] at this
    obtain ⟨h1, rfl⟩ := List.getElem?_eq_some_iff.1 hm
    obtain ⟨h2, rfl⟩ := List.getElem?_eq_some_iff.1 hm'
    exact absurd he (this k i h2 h1 hk)
end Go.Proofs.Ytkbggjhfiemhoaa
