/- Plain: moves done one after the other come to what they come to at one time. -/
import Derived.Test.YtkbggjhfiemhoaaFcp
namespace Go.Proofs.Ytkbggjhfiemhoaa
def id16 : List Int := (List.range 16).map Int.ofNat
def regStep (r : List Int) (m : Mv) : List Int := r.set m.1.toNat (r.getD m.2.toNat 0)
def wantStep (r : List Int) (m : Mv) : List Int := r.set m.1.toNat m.2
def cntTo (l : List Mv) : Nat := (clean l).length
/-- All of a list's registers are registers. -/
def okM (m : Mv) : Prop := (0 ≤ m.1 ∧ m.1 ≤ 15) ∧ 0 ≤ m.2 ∧ m.2 ≤ 15
/-- The moves that are left: the same registers' goals, none twice. -/
structure Rest (spare : Int) (rest : List Mv) : Prop where
  ok : ∀ m ∈ rest, okM m
  ne : ∀ m ∈ rest, m.1 ≠ spare
  one : rest.Pairwise fun a b => a.1 ≠ b.1
theorem Rest.uniq {spare : Int} {rest : List Mv} (h : Rest spare rest) {a b : Mv} (ha : a ∈ rest) (hb : b ∈ rest) (he : a.1 = b.1) : a = b := by
  obtain ⟨i, hi, rfl⟩ := List.mem_iff_getElem.1 ha
  obtain ⟨j, hj, rfl⟩ := List.mem_iff_getElem.1 hb
  have hp := List.pairwise_iff_getElem.1 h.one
  rcases Nat.lt_trichotomy i j with hij | hij | hij
  · exact absurd he (hp i j hi hj hij)
  · subst hij; rfl
  · exact absurd he.symm (hp j i hj hi hij)
theorem Rest.erase {spare : Int} {rest : List Mv} (h : Rest spare rest) (i : Nat) : Rest spare (rest.eraseIdx i) :=
  ⟨fun m hm => h.ok m (List.mem_of_mem_eraseIdx hm), fun m hm => h.ne m (List.mem_of_mem_eraseIdx hm), h.one.sublist (List.eraseIdx_sublist _ _)⟩
theorem openAll_to (first spare : Int) (m : Mv) : (openAll first spare m).1 = m.1 := by unfold openAll; split <;> rfl
theorem Rest.opened {spare first : Int} {rest : List Mv} (hs : 0 ≤ spare ∧ spare ≤ 15) (h : Rest spare rest) : Rest spare (rest.map (openAll first spare)) := by
  refine ⟨fun m hm => ?_, fun m hm => ?_, ?_⟩
  · obtain ⟨x, hx, rfl⟩ := List.mem_map.1 hm
    have := h.ok x hx
    unfold openAll; split
    · exact ⟨this.1, hs⟩
    · exact this
  · obtain ⟨x, hx, rfl⟩ := List.mem_map.1 hm
    rw [openAll_to]; exact h.ne x hx
  · rw [List.pairwise_map]
    refine h.one.imp fun hab => ?_
    rw [openAll_to, openAll_to]; exact hab
/-! ### Where a register's content comes from -/
/-- One step back: -1 where nothing is moved to. -/
def src (rest : List Mv) (x : Int) : Int := match rest.find? (fun m => decide (m.1 = x)) with | some m => m.2 | none => -1
theorem src_of {spare : Int} {rest : List Mv} (h : Rest spare rest) {m : Mv} (hm : m ∈ rest) : src rest m.1 = m.2 := by
  unfold src
  cases hf : rest.find? (fun x => decide (x.1 = m.1)) with
  | none => rw [List.find?_eq_none] at hf; exact absurd (by simp : decide (m.1 = m.1) = true) (hf m hm)
  | some x =>
    have h1 := List.find?_some hf
    have := h.uniq (List.mem_of_find?_eq_some hf) hm (by simpa using h1)
    rw [this]
theorem src_none {rest : List Mv} {x : Int} (h : ∀ m ∈ rest, m.1 ≠ x) : src rest x = -1 := by
  unfold src
  rw [List.find?_eq_none.2 fun m hm => by simpa using h m hm]
theorem src_cases {spare : Int} {rest : List Mv} (h : Rest spare rest) (x : Int) : (∃ m ∈ rest, m.1 = x ∧ src rest x = m.2) ∨ ((∀ m ∈ rest, m.1 ≠ x) ∧ src rest x = -1) := by
  by_cases hx : ∃ m ∈ rest, m.1 = x
  · obtain ⟨m, hm, rfl⟩ := hx
    exact .inl ⟨m, hm, rfl, src_of h hm⟩
  · have hx' : ∀ m ∈ rest, m.1 ≠ x := fun m hm he => hx ⟨m, hm, he⟩
    exact .inr ⟨hx', src_none hx'⟩
/-! ### What is in the registers in the end -/
def getI (r : List Int) (x : Int) : Int := r.getD x.toNat 0
def final (r : List Int) (rest : List Mv) (x : Int) : Int := if src rest x < 0 then getI r x else getI r (src rest x)
theorem getI_set {r : List Int} {x y v : Int} (hr : r.length = 16) (hx : 0 ≤ x ∧ x ≤ 15) (hy : 0 ≤ y ∧ y ≤ 15) : getI (r.set x.toNat v) y = if x = y then v else getI r y := by
  unfold getI
  rw [List.getD_eq_getElem?_getD, List.getD_eq_getElem?_getD, List.getElem?_set]
  by_cases h : x = y
  · subst h; rw [if_pos rfl, if_pos (by omega), if_pos rfl]; rfl
  · rw [if_neg (by omega), if_neg h]
theorem getI_step {r : List Int} {m : Mv} {y : Int} (hr : r.length = 16) (hm : okM m) (hy : 0 ≤ y ∧ y ≤ 15) : getI (regStep r m) y = if m.1 = y then getI r m.2 else getI r y := by
  unfold regStep
  rw [getI_set hr hm.1 hy]; rfl
theorem regStep_len (r : List Int) (m : Mv) : (regStep r m).length = r.length := by simp [regStep]
/-- A free move, done. -/
theorem final_take {spare : Int} {rest : List Mv} {r : List Int} {i : Nat} {m : Mv} (h : Rest spare rest) (hr : r.length = 16) (hm : rest[i]? = some m) (hf : free rest m = true) {x : Int} (hx : 0 ≤ x ∧ x ≤ 15) :
    final (regStep r m) (rest.eraseIdx i) x = final r rest x := by
  have hmem := List.mem_of_getElem? hm
  have hok := h.ok m hmem
  have hfree : ∀ y ∈ rest, y.2 ≠ m.1 := fun y hy he => by
    simp only [free, Bool.not_eq_true', List.any_eq_false] at hf
    exact hf y hy (by simpa using he)
  have hnot : ∀ y ∈ rest.eraseIdx i, y.1 ≠ m.1 := fun y hy he => by
    obtain ⟨j, hj, hjy⟩ := List.mem_eraseIdx_iff_getElem?.1 hy
    obtain ⟨hi, he1⟩ := List.getElem?_eq_some_iff.1 hm
    obtain ⟨hj', he2⟩ := List.getElem?_eq_some_iff.1 hjy
    have hp := List.pairwise_iff_getElem.1 h.one
    rcases Nat.lt_or_gt_of_ne hj with hlt | hlt
    · exact hp j i hj' hi hlt (by rw [he1, he2]; exact he)
    · exact hp i j hi hj' hlt (by rw [he1, he2]; exact he.symm)
  unfold final
  by_cases hxm : x = m.1
  · subst hxm
    rw [src_none hnot, if_pos (by omega), src_of h hmem, if_neg (by have := hok.2.1; omega), getI_step hr hok hx, if_pos rfl]
  · rcases src_cases (h.erase i) x with ⟨y, hy, rfl, hs⟩ | ⟨hno, hs⟩
    · have hy' := List.mem_of_mem_eraseIdx hy
      have hoky := h.ok y hy'
      rw [hs, src_of h hy', if_neg (by have := hoky.2.1; omega), if_neg (by have := hoky.2.1; omega), getI_step hr hok hoky.2, if_neg (Ne.symm (hfree y hy'))]
    · have hno' : ∀ y ∈ rest, y.1 ≠ x := fun y hy he => by
        obtain ⟨j, hj⟩ := List.getElem?_of_mem hy
        by_cases hji : j = i
        · subst hji; rw [hm] at hj; cases hj; exact hxm he.symm
        · exact hno y (List.mem_eraseIdx_iff_getElem?.2 ⟨j, hji, hj⟩) he
      rw [hs, src_none hno', if_pos (by omega), if_pos (by omega), getI_step hr hok hx, if_neg (fun e => hxm e.symm)]
/-- A cycle, opened. -/
theorem final_open {spare first : Int} {rest : List Mv} {r : List Int} (h : Rest spare rest) (hr : r.length = 16) (hs : 0 ≤ spare ∧ spare ≤ 15) (hfst : 0 ≤ first ∧ first ≤ 15) (hno : ∀ m ∈ rest, m.2 ≠ spare) {x : Int} (hx : 0 ≤ x ∧ x ≤ 15) (hxs : x ≠ spare) :
    final (regStep r (spare, first)) (rest.map (openAll first spare)) x = final r rest x := by
  have hok : okM (spare, first) := ⟨hs, hfst⟩
  unfold final
  rcases src_cases h x with ⟨m, hm, rfl, hsm⟩ | ⟨hn, hsn⟩
  · have hoky := h.ok m hm
    have h1 := src_of (h.opened (first := first) hs) (List.mem_map_of_mem (f := openAll first spare) hm)
    rw [openAll_to] at h1
    rw [h1, hsm, if_neg (show ¬ m.2 < 0 by have := hoky.2.1; omega)]
    unfold openAll
    by_cases hf : m.2 = first
    · rw [if_pos hf]
      show (if spare < 0 then _ else _) = _
      rw [if_neg (by omega), getI_step hr hok hs, if_pos rfl, hf]
    · rw [if_neg hf, if_neg (by have := hoky.2.1; omega), getI_step hr hok hoky.2, if_neg (Ne.symm (hno m hm))]
  · rw [hsn, src_none (fun m hm => by
      obtain ⟨y, hy, rfl⟩ := List.mem_map.1 hm
      rw [openAll_to]; exact hn y hy), if_pos (by omega), if_pos (by omega), getI_step hr hok hx, if_neg (fun e => hxs e.symm)]
end Go.Proofs.Ytkbggjhfiemhoaa
