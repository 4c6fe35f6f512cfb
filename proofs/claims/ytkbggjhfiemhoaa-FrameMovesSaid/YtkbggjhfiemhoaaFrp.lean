/- Plain: what the functions on moves come to. -/
namespace Go.Proofs.Ytkbggjhfiemhoaa
/-- A move: to, from. -/
abbrev Mv := Int × Int
def okReg (n : Int) : Bool := decide (0 ≤ n ∧ n ≤ 15)
def bad (spare : Int) (s : List Bool) (m : Mv) : Bool := !okReg m.1 || !okReg m.2 || decide (m.1 = spare) || decide (m.2 = spare) || s.getD m.1.toNat false
def mayGo (spare : Int) : List Bool → List Mv → Bool
  | _, [] => true
  | s, m :: r => if bad spare s m then false else mayGo spare (s.set m.1.toNat true) r
def mayB (l : List Mv) (spare : Int) : Bool := okReg spare && mayGo spare (List.replicate 16 false) l
def idxF (p : Mv → Bool) (l : List Mv) : Int := match l.findIdx? p with | some i => i | none => -1
theorem idxF_some {p : Mv → Bool} {l : List Mv} {i : Nat} {m : Mv} (hm : l[i]? = some m) (hp : p m = true) (hn : ∀ j m', j < i → l[j]? = some m' → p m' = false) : idxF p l = i := by
  have : l.findIdx? p = some i := by
    rw [List.findIdx?_eq_some_iff_getElem]
    obtain ⟨hlt, he⟩ := List.getElem?_eq_some_iff.1 hm
    refine ⟨hlt, by rw [he]; exact hp, fun j hj => ?_⟩
    rw [hn j _ hj (List.getElem?_eq_getElem (by omega))]; simp
  simp [idxF, this]
theorem idxF_none {p : Mv → Bool} {l : List Mv} (hn : ∀ (j : Nat) m', l[j]? = some m' → p m' = false) : idxF p l = -1 := by
  have : l.findIdx? p = none := by
    rw [List.findIdx?_eq_none_iff]
    intro x hx
    obtain ⟨j, hj⟩ := List.getElem?_of_mem hx
    rw [hn j x hj]
  simp [idxF, this]
theorem idxF_any {p : Mv → Bool} {l : List Mv} : decide (0 ≤ idxF p l) = l.any p := by
  unfold idxF
  cases h : l.findIdx? p with
  | none =>
    rw [List.findIdx?_eq_none_iff] at h
    rw [show (l.any p) = false from by rw [List.any_eq_false]; intro x hx; simp [h x hx]]
    decide
  | some i =>
    rw [List.findIdx?_eq_some_iff_getElem] at h
    obtain ⟨hlt, h1, _⟩ := h
    rw [show (l.any p) = true from List.any_eq_true.2 ⟨_, List.getElem_mem hlt, h1⟩]
    simp
/-- May this move be done now? -/
def free (rest : List Mv) (m : Mv) : Bool := !(rest.any fun x => decide (x.2 = m.1))
def openAll (first spare : Int) (m : Mv) : Mv := if m.2 = first then (m.1, spare) else m
def movesGo (spare : Int) : Nat → List Mv → List Mv → List Mv
  | 0, _, out => out
  | k + 1, rest, out => match rest with
    | [] => out
    | m0 :: _ => match rest.findIdx? (free rest) with
      | some i => movesGo spare k (rest.eraseIdx i) (out ++ [rest.getD i m0])
      | none => movesGo spare k (rest.map (openAll m0.1 spare)) (out ++ [(spare, m0.1)])
def meas (rest : List Mv) : Nat := 2 * rest.length + (if rest.any (free rest) then 0 else 1)
def clean (l : List Mv) : List Mv := l.filter fun m => !decide (m.1 = m.2)
def movesF (l : List Mv) (spare : Int) : List Mv := movesGo spare (2 * l.length + 1) (clean l) []
theorem free_of_first {rest : List Mv} {i : Nat} (h : rest.findIdx? (free rest) = some i) : i < rest.length := (List.findIdx?_eq_some_iff_getElem.1 h).1
theorem meas_erase {rest : List Mv} {i : Nat} (h : i < rest.length) : meas (rest.eraseIdx i) + 1 ≤ 2 * rest.length := by
  unfold meas
  rw [List.length_eraseIdx, if_pos h]
  split <;> omega
theorem meas_le (rest : List Mv) : meas rest ≤ 2 * rest.length + 1 := by unfold meas; split <;> omega
/-- Once a cycle is opened something is free. -/
theorem meas_open {m0 : Mv} {r : List Mv} {spare : Int} (hs : ∀ m ∈ m0 :: r, m.1 ≠ spare) (hn : (m0 :: r).findIdx? (free (m0 :: r)) = none) : meas ((m0 :: r).map (openAll m0.1 spare)) + 1 = meas (m0 :: r) := by
  have h1 : (m0 :: r).any (free (m0 :: r)) = false := by
    rw [List.findIdx?_eq_none_iff] at hn
    rw [List.any_eq_false]
    intro x hx; simp [hn x hx]
  have h2 : ((m0 :: r).map (openAll m0.1 spare)).any (free ((m0 :: r).map (openAll m0.1 spare))) = true := by
    rw [List.any_eq_true]
    refine ⟨openAll m0.1 spare m0, by simp, ?_⟩
    have hto : (openAll m0.1 spare m0).1 = m0.1 := by unfold openAll; split <;> rfl
    unfold free
    rw [hto, Bool.not_eq_true', List.any_eq_false]
    intro x hx
    simp only [List.mem_map] at hx
    obtain ⟨y, hy, rfl⟩ := hx
    have hne := hs m0 (by simp)
    unfold openAll
    split
    · simpa using fun e => hne e.symm
    · rename_i h; simpa using h
  unfold meas
  rw [h1, h2]
  simp

theorem may_spec {spare : Int} : ∀ {l : List Mv} {s : List Bool}, mayGo spare s l = true → s.length = 16 → l.length ≤ s.count false ∧ ∀ m ∈ l, okReg m.1 = true ∧ okReg m.2 = true ∧ m.1 ≠ spare ∧ m.2 ≠ spare := by
  intro l
  induction l with
  | nil => intro s _ _; simp
  | cons m r ih =>
    intro s h hs
    rw [mayGo] at h
    by_cases hb : bad spare s m = true
    · rw [if_pos hb] at h; cases h
    · rw [if_neg hb] at h
      have hb' : bad spare s m = false := by simpa using hb
      simp only [bad, Bool.or_eq_false_iff, Bool.not_eq_false', decide_eq_false_iff_not] at hb'
      obtain ⟨⟨⟨⟨h1, h2⟩, h3⟩, h4⟩, h5⟩ := hb'
      obtain ⟨h6, h7⟩ := ih h (by simpa using hs)
      have hr : 0 ≤ m.1 ∧ m.1 ≤ 15 := by simpa [okReg] using h1
      have hlt : m.1.toNat < s.length := by omega
      rw [List.getD_eq_getElem?_getD, List.getElem?_eq_getElem hlt, Option.getD_some] at h5
      rw [List.count_set hlt, h5] at h6
      have hpos : 0 < s.count false := List.count_pos_iff.2 (h5 ▸ List.getElem_mem hlt)
      simp at h6
      refine ⟨by simp; omega, fun m' hm' => ?_⟩
      rcases List.mem_cons.1 hm' with rfl | hm'
      · exact ⟨h1, h2, h3, h4⟩
      · exact h7 m' hm'
theorem may_len {l : List Mv} {spare : Int} (h : mayB l spare = true) : l.length ≤ 16 := by
  simp only [mayB, Bool.and_eq_true] at h
  have := (may_spec h.2 (by simp)).1
  simpa using this
theorem may_to {l : List Mv} {spare : Int} (h : mayB l spare = true) : ∀ m ∈ l, okReg m.1 = true ∧ okReg m.2 = true ∧ m.1 ≠ spare ∧ m.2 ≠ spare := by
  simp only [mayB, Bool.and_eq_true] at h
  exact (may_spec h.2 (by simp)).2
/-- A round of Moves. -/
def MvInv (l : List Mv) (spare : Int) (k : Nat) (rest out : List Mv) : Prop :=
  movesGo spare k rest out = movesF l spare ∧ meas rest ≤ k ∧ (∀ m ∈ rest, m.1 ≠ spare) ∧ out.length + k ≤ 33 ∧ rest.length ≤ 16
theorem MvInv.start {l : List Mv} {spare : Int} (h : mayB l spare = true) : MvInv l spare (2 * l.length + 1) (clean l) [] := by
  have h1 := may_len h
  have h2 : (clean l).length ≤ l.length := List.length_filter_le _ _
  refine ⟨rfl, Nat.le_trans (meas_le _) (by omega), fun m hm => ((may_to h) m (List.mem_filter.1 hm).1).2.2.1, by simp; omega, by omega⟩
theorem MvInv.done {l : List Mv} {spare : Int} {k : Nat} {out : List Mv} (h : MvInv l spare k [] out) : out = movesF l spare := by
  obtain ⟨h1, _⟩ := h
  cases k <;> simpa [movesGo] using h1
theorem MvInv.take {l : List Mv} {spare : Int} {k : Nat} {rest out : List Mv} {i : Nat} {m : Mv} (h : MvInv l spare k rest out) (hm : rest[i]? = some m) (hf : rest.findIdx? (free rest) = some i) : ∃ k', k = k' + 1 ∧ MvInv l spare k' (rest.eraseIdx i) (out ++ [m]) := by
  obtain ⟨h1, h2, h3, h4, h5⟩ := h
  obtain ⟨hi, he⟩ := List.getElem?_eq_some_iff.1 hm
  have hpos : 1 ≤ meas rest := by unfold meas; omega
  obtain ⟨k', rfl⟩ : ∃ k', k = k' + 1 := ⟨k - 1, by omega⟩
  match rest, hi, he, h1, h2, h3, hf, h5, hm with
  | m0 :: r, hi, he, h1, h2, h3, hf, h5, hm =>
    simp only [movesGo, hf] at h1
    have hm2 : (m0 :: r).getD i m0 = m := by rw [List.getD_eq_getElem?_getD, hm]; rfl
    rw [hm2] at h1
    have hany : (m0 :: r).any (free (m0 :: r)) = true := by
      obtain ⟨hlt, h, _⟩ := List.findIdx?_eq_some_iff_getElem.1 hf
      exact List.any_eq_true.2 ⟨_, List.getElem_mem hlt, h⟩
    have hme := meas_erase hi
    have h2' : meas (m0 :: r) = 2 * (m0 :: r).length := by unfold meas; rw [hany]; simp
    refine ⟨k', rfl, h1, by omega, fun x hx => h3 x (List.mem_of_mem_eraseIdx hx), by simp; omega, ?_⟩
    rw [List.length_eraseIdx, if_pos hi]; omega
theorem MvInv.opened {l : List Mv} {spare : Int} {k : Nat} {m0 : Mv} {r out : List Mv} (h : MvInv l spare k (m0 :: r) out) (hf : (m0 :: r).findIdx? (free (m0 :: r)) = none) : ∃ k', k = k' + 1 ∧ MvInv l spare k' ((m0 :: r).map (openAll m0.1 spare)) (out ++ [(spare, m0.1)]) := by
  obtain ⟨h1, h2, h3, h4, h5⟩ := h
  have hpos : 1 ≤ meas (m0 :: r) := by unfold meas; simp; omega
  obtain ⟨k', rfl⟩ : ∃ k', k = k' + 1 := ⟨k - 1, by omega⟩
  simp only [movesGo, hf] at h1
  have hmo := meas_open h3 hf
  refine ⟨k', rfl, h1, by omega, fun x hx => ?_, by simp; omega, by simpa using h5⟩
  simp only [List.mem_map] at hx
  obtain ⟨y, hy, rfl⟩ := hx
  have : (openAll m0.1 spare y).1 = y.1 := by unfold openAll; split <;> rfl
  rw [this]; exact h3 y hy

/-- DeleteFunc's state: behind j elements, i of which are kept. -/
def DelAt (p : Mv → Bool) (l : List Mv) (j : Nat) (R : List Mv) (i : Nat) : Prop := R.length = l.length ∧ i < j ∧ j ≤ l.length ∧ R.take i = (l.take j).filter (fun m => !p m) ∧ R.drop j = l.drop j
theorem DelAt.start {p : Mv → Bool} {l : List Mv} {i : Nat} (hi : i < l.length) (hp : p l[i] = true) (hl : ∀ j (h : j < i), ¬ p l[j] = true) : DelAt p l (i + 1) l i := by
  refine ⟨rfl, by omega, by omega, ?_, rfl⟩
  rw [List.take_succ_eq_append_getElem hi, List.filter_append]
  have h1 : (l.take i).filter (fun m => !p m) = l.take i := by
    rw [List.filter_eq_self]
    intro m hm
    obtain ⟨j, hj, rfl⟩ := List.mem_iff_getElem.1 hm
    have hj' : j < i := by rw [List.length_take] at hj; omega
    have := hl j hj'
    simp only [List.getElem_take]
    simpa using this
  rw [h1]; simp [hp]
theorem DelAt.get {p : Mv → Bool} {l R : List Mv} {i j : Nat} (h : DelAt p l j R i) (hj : j < l.length) : R[j]? = some l[j] := by
  obtain ⟨h1, _, _, _, h5⟩ := h
  have := congrArg (·[0]?) h5
  simpa [hj, h1] using this
theorem DelAt.del {p : Mv → Bool} {l R : List Mv} {i j : Nat} (h : DelAt p l j R i) (hj : j < l.length) (hp : p l[j] = true) : DelAt p l (j + 1) R i := by
  obtain ⟨h1, h2, h3, h4, h5⟩ := h
  refine ⟨h1, by omega, by omega, ?_, ?_⟩
  · rw [h4, List.take_succ_eq_append_getElem hj, List.filter_append]; simp [hp]
  · have := congrArg (List.drop 1) h5
    simpa [List.drop_drop] using this
theorem DelAt.keep {p : Mv → Bool} {l R : List Mv} {i j : Nat} (h : DelAt p l j R i) (hj : j < l.length) (hp : p l[j] = false) : DelAt p l (j + 1) (R.set i l[j]) (i + 1) := by
  obtain ⟨h1, h2, h3, h4, h5⟩ := h
  refine ⟨by simpa using h1, by omega, by omega, ?_, ?_⟩
  · rw [List.take_succ_eq_append_getElem hj, List.filter_append]
    rw [List.take_succ_eq_append_getElem (by simp; omega)]
    simp [List.take_set_of_le, h4, hp]
  · have := congrArg (List.drop 1) h5
    rw [List.drop_set_of_lt (by omega)]
    simpa [List.drop_drop] using this
theorem DelAt.done {p : Mv → Bool} {l R : List Mv} {i j : Nat} (h : DelAt p l j R i) (hj : ¬ j < l.length) : R.take i = l.filter (fun m => !p m) ∧ i < l.length := by
  obtain ⟨h1, h2, h3, h4, h5⟩ := h
  have h6 : l.take j = l := List.take_of_length_le (by omega)
  rw [h6] at h4
  exact ⟨h4, by omega⟩
end Go.Proofs.Ytkbggjhfiemhoaa
