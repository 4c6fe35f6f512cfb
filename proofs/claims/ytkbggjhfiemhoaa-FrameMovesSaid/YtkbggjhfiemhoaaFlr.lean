/- Plain: the law of moves. -/
import Derived.Test.YtkbggjhfiemhoaaFlq
namespace Go.Proofs.Ytkbggjhfiemhoaa
theorem clean_cons (a : Mv) (r : List Mv) : clean (a :: r) = if a.1 = a.2 then clean r else a :: clean r := by
  unfold clean
  rw [List.filter_cons]
  by_cases h : a.1 = a.2 <;> simp [h]
theorem clean_sub {l : List Mv} {m : Mv} (h : m ∈ clean l) : m ∈ l := (List.mem_filter.1 h).1
theorem Rest.of_may {l : List Mv} {spare : Int} (h : mayB l spare = true) : Rest spare l := by
  obtain ⟨_, h2, h3⟩ := mayB_iff.1 h
  refine ⟨fun m hm => ?_, fun m hm => ?_, h3⟩
  · have := h2 m hm
    simp only [okMv, Bool.and_eq_true, okReg, decide_eq_true_eq] at this
    exact ⟨this.1, this.2.1⟩
  · have := h2 m hm
    simp only [okMv, Bool.and_eq_true, Bool.not_eq_true', decide_eq_false_iff_not] at this
    exact this.2.2.1
theorem Rest.clean {l : List Mv} {spare : Int} (h : Rest spare l) : Rest spare (clean l) :=
  ⟨fun m hm => h.ok m (clean_sub hm), fun m hm => h.ne m (clean_sub hm), h.one.sublist (List.filter_sublist)⟩
theorem Rest.tail {a : Mv} {l : List Mv} {spare : Int} (h : Rest spare (a :: l)) : Rest spare l ∧ ∀ m ∈ l, a.1 ≠ m.1 :=
  ⟨⟨fun m hm => h.ok m (List.mem_cons_of_mem _ hm), fun m hm => h.ne m (List.mem_cons_of_mem _ hm), (List.pairwise_cons.1 h.one).2⟩, (List.pairwise_cons.1 h.one).1⟩
theorem getD_set_int {r : List Int} {x y v d : Int} (hr : r.length = 16) (hx : 0 ≤ x ∧ x ≤ 15) (hy : 0 ≤ y ∧ y ≤ 15) : (r.set x.toNat v).getD y.toNat d = if x = y then v else r.getD y.toNat d := by
  rw [List.getD_eq_getElem?_getD, List.getD_eq_getElem?_getD, List.getElem?_set]
  by_cases h : x = y
  · subst h; rw [if_pos rfl, if_pos (by omega), if_pos rfl]; rfl
  · rw [if_neg (by omega), if_neg h]
theorem fromStep_len (r : List Int) (m : Mv) : (fromStep r m).length = r.length := by unfold fromStep; split <;> simp
theorem from_none {spare : Int} {x : Int} (hx : 0 ≤ x ∧ x ≤ 15) : ∀ {l : List Mv} {fr : List Int}, Rest spare l → fr.length = 16 → (∀ m ∈ clean l, m.1 ≠ x) → (l.foldl fromStep fr).getD x.toNat (-1) = fr.getD x.toNat (-1) := by
  intro l
  induction l with
  | nil => intro fr _ _ _; rfl
  | cons a r ih =>
    intro fr hR hl hno
    rw [List.foldl_cons, ih hR.tail.1 (by rw [fromStep_len]; exact hl) (fun m hm => hno m (by rw [clean_cons]; split; exact hm; exact List.mem_cons_of_mem _ hm))]
    unfold fromStep
    by_cases he : a.1 = a.2
    · rw [if_pos he]
    · rw [if_neg he, getD_set_int hl (hR.ok a (by simp)).1 hx, if_neg (hno a (by rw [clean_cons, if_neg he]; simp))]
theorem from_some {spare : Int} {m : Mv} : ∀ {l : List Mv} {fr : List Int}, Rest spare l → fr.length = 16 → m ∈ clean l → (l.foldl fromStep fr).getD m.1.toNat (-1) = m.2 := by
  intro l
  induction l with
  | nil => intro fr _ _ hm; exact absurd hm (by simp [clean])
  | cons a r ih =>
    intro fr hR hl hm
    rw [List.foldl_cons]
    rw [clean_cons] at hm
    by_cases he : a.1 = a.2
    · rw [if_pos he] at hm
      exact ih hR.tail.1 (by rw [fromStep_len]; exact hl) hm
    · rw [if_neg he] at hm
      rcases List.mem_cons.1 hm with rfl | hm
      · have hx := (hR.ok m (by simp)).1
        rw [from_none hx hR.tail.1 (by rw [fromStep_len]; exact hl) (fun y hy => Ne.symm (hR.tail.2 y (clean_sub hy)))]
        unfold fromStep
        rw [if_neg he, getD_set_int hl hx hx, if_pos rfl]
      · exact ih hR.tail.1 (by rw [fromStep_len]; exact hl) hm
theorem fromF_src {spare : Int} {l : List Mv} (hR : Rest spare l) {x : Int} (hx : 0 ≤ x ∧ x ≤ 15) : (fromF l).getD x.toNat (-1) = src (clean l) x := by
  rcases src_cases hR.clean x with ⟨m, hm, rfl, hs⟩ | ⟨hno, hs⟩
  · rw [hs]; exact from_some hR (by simp) hm
  · rw [hs, fromF, from_none hx hR (by simp) hno, List.getD_eq_getElem?_getD, List.getElem?_replicate]
    split <;> rfl
/-! ### As the document counts cycles -/
theorem exists_min {p : Nat → Prop} (h : ∃ k, p k) : ∃ k, p k ∧ ∀ j, j < k → ¬ p j := by
  obtain ⟨k, hk⟩ := h
  induction k using Nat.strongRecOn with
  | _ k ih =>
    by_cases hex : ∃ j, j < k ∧ p j
    · obtain ⟨j, hj, hp⟩ := hex; exact ih j hj hp
    · exact ⟨k, hk, fun j hj hp => hex ⟨j, hj, hp⟩⟩
theorem cyc1_of {spare : Int} {l : List Mv} (hR : Rest spare l) {i : Nat} (hi : i < 16) (hc : Cyc (clean l) (i : Int)) : cyc1 (fromF l) i = true := by
  obtain ⟨k, ⟨hk1, hk16, hk, hall⟩, hmin⟩ := exists_min hc
  have hne : ∀ j, 1 ≤ j → j < k → it (clean l) j (i : Int) ≠ i := fun j hj1 hjk he => hmin j hjk ⟨hj1, by omega, he, fun j' hj' => hall j' (by omega)⟩
  have hR' := hR.clean
  have hle : ∀ j, it (clean l) j (i : Int) ≤ 15 := fun j => it_le hR' (by omega) j
  have step : ∀ j, j < k → cwalk (fromF l) i (16 - j) (it (clean l) j i) false true = cwalk (fromF l) i (16 - (j + 1)) (it (clean l) (j + 1) i) (decide (it (clean l) (j + 1) (i : Int) = i)) true := by
    intro j hj
    have h0 := hall j (by omega)
    have h1 := hall (j + 1) hj
    have h2 := hle j
    rw [show 16 - j = (16 - (j + 1)) + 1 from by omega, cwalk, if_neg (by simp; omega), fromF_src hR ⟨by omega, h2⟩]
    rw [show it (clean l) (j + 1) (i : Int) = src (clean l) (it (clean l) j i) from rfl] at h1 ⊢
    congr 1
    simp [h1]
  have run : ∀ j, j < k → cyc1 (fromF l) i = cwalk (fromF l) i (16 - j) (it (clean l) j i) false true := by
    intro j
    induction j with
    | zero => intro _; rfl
    | succ j ih =>
      intro hj
      rw [ih (by omega), step j (by omega), show decide (it (clean l) (j + 1) (i : Int) = i) = false from by simpa using hne (j + 1) (by omega) hj]
  rw [run (k - 1) (by omega), step (k - 1) (by omega), show k - 1 + 1 = k from by omega, show decide (it (clean l) k (i : Int) = i) = true from by simpa using hk]
  cases 16 - k with
  | zero => rfl
  | succ n => rw [cwalk, if_pos (Or.inr rfl)]; rfl
theorem cyc_le_cycTo {spare : Int} {l : List Mv} (hR : Rest spare l) (n : Nat) (hn : n ≤ 16) : cyc (clean l) n ≤ cycTo (fromF l) n := by
  induction n with
  | zero => simp [cyc]
  | succ n ih =>
    rw [cyc_succ, cycTo_succ]
    have := ih (by omega)
    by_cases h : Cyc (clean l) (n : Int)
    · rw [if_pos h, if_pos (cyc1_of hR (by omega) h)]; omega
    · rw [if_neg h]; omega
/-! ### At one time -/
theorem id16_get {x : Int} (hx : 0 ≤ x ∧ x ≤ 15) : getI id16 x = x := by
  have : ∀ n, n < 16 → id16.getD n 0 = (n : Int) := by decide
  unfold getI
  rw [this x.toNat (by omega)]; omega
theorem wantStep_len (r : List Int) (m : Mv) : (wantStep r m).length = r.length := by simp [wantStep]
theorem want_none {spare : Int} {x : Int} (hx : 0 ≤ x ∧ x ≤ 15) : ∀ {l : List Mv} {r : List Int}, Rest spare l → r.length = 16 → (∀ m ∈ l, m.1 ≠ x) → getI (l.foldl wantStep r) x = getI r x := by
  intro l
  induction l with
  | nil => intro r _ _ _; rfl
  | cons a l ih =>
    intro r hR hl hno
    rw [List.foldl_cons, ih hR.tail.1 (by rw [wantStep_len]; exact hl) (fun m hm => hno m (List.mem_cons_of_mem _ hm)), wantStep, getI_set hl (hR.ok a (by simp)).1 hx, if_neg (hno a (by simp))]
theorem want_some {spare : Int} {m : Mv} : ∀ {l : List Mv} {r : List Int}, Rest spare l → r.length = 16 → m ∈ l → getI (l.foldl wantStep r) m.1 = m.2 := by
  intro l
  induction l with
  | nil => intro r _ _ hm; simp at hm
  | cons a l ih =>
    intro r hR hl hm
    rw [List.foldl_cons]
    rcases List.mem_cons.1 hm with rfl | hm
    · have hx := (hR.ok m (by simp)).1
      rw [want_none hx hR.tail.1 (by rw [wantStep_len]; exact hl) (fun y hy => Ne.symm (hR.tail.2 y hy)), wantStep, getI_set hl hx hx, if_pos rfl]
    · exact ih hR.tail.1 (by rw [wantStep_len]; exact hl) hm
theorem want_final {spare : Int} {l : List Mv} (hR : Rest spare l) {x : Int} (hx : 0 ≤ x ∧ x ≤ 15) : final id16 (clean l) x = getI (l.foldl wantStep id16) x := by
  unfold final
  rcases src_cases hR.clean x with ⟨m, hm, rfl, hs⟩ | ⟨hno, hs⟩
  · have hok := (hR.ok m (clean_sub hm)).2
    rw [hs, if_neg (by omega), id16_get hok, want_some hR rfl (clean_sub hm)]
  · rw [hs, if_pos (by omega), id16_get hx]
    by_cases h : ∃ m ∈ l, m.1 = x
    · obtain ⟨m, hm, rfl⟩ := h
      rw [want_some hR rfl hm]
      by_cases he : m.1 = m.2
      · exact he
      · exact absurd rfl (hno m (List.mem_filter.2 ⟨hm, by simpa using he⟩))
    · rw [want_none hx hR rfl (fun m hm e => h ⟨m, hm, e⟩), id16_get hx]
/-! ### The order -/
theorem regs_len (l : List Mv) : ∀ (r : List Int), (l.foldl regStep r).length = r.length := by
  induction l with
  | nil => intro r; rfl
  | cons a l ih => intro r; rw [List.foldl_cons, ih, regStep_len]
theorem go_law {spare : Int} (hs : 0 ≤ spare ∧ spare ≤ 15) (W : Int → Int) (B : Nat) : ∀ (k : Nat) (rest out : List Mv), meas rest ≤ k → Rest spare rest → (∀ m ∈ out, okM m) →
    (∀ x, 0 ≤ x ∧ x ≤ 15 → x ≠ spare → final (out.foldl regStep id16) rest x = W x) → out.length + rest.length + cyc rest 16 ≤ B →
    (∀ m ∈ movesGo spare k rest out, okM m) ∧ (∀ x, 0 ≤ x ∧ x ≤ 15 → x ≠ spare → getI ((movesGo spare k rest out).foldl regStep id16) x = W x) ∧ (movesGo spare k rest out).length ≤ B := by
  intro k
  induction k with
  | zero =>
    intro rest out hk hR hok hW hB
    have hlen : rest.length = 0 := by unfold meas at hk; omega
    obtain rfl := List.length_eq_zero_iff.1 hlen
    exact ⟨hok, fun x hx hxs => hW x hx hxs, by rw [movesGo]; omega⟩
  | succ k ih =>
    intro rest out hk hR hok hW hB
    match rest, hk, hR, hW, hB with
    | [], hk, hR, hW, hB =>
      exact ⟨hok, fun x hx hxs => hW x hx hxs, by simp only [movesGo]; omega⟩
    | m0 :: r, hk, hR, hW, hB =>
      have hl16 : (out.foldl regStep id16).length = 16 := by rw [regs_len]; rfl
      cases hf : (m0 :: r).findIdx? (free (m0 :: r)) with
      | some i =>
        simp only [movesGo, hf]
        obtain ⟨hi, hfr, _⟩ := List.findIdx?_eq_some_iff_getElem.1 hf
        have hm : (m0 :: r)[i]? = some (m0 :: r)[i] := List.getElem?_eq_getElem hi
        have hgd : (m0 :: r).getD i m0 = (m0 :: r)[i] := by rw [List.getD_eq_getElem?_getD, hm]; rfl
        rw [hgd]
        generalize (m0 :: r)[i] = m at hm hfr hgd
        have hmem := List.mem_of_getElem? hm
        have hme := meas_erase hi
        have hany : (m0 :: r).any (free (m0 :: r)) = true := List.any_eq_true.2 ⟨m, hmem, hfr⟩
        have h2 : meas (m0 :: r) = 2 * (m0 :: r).length := by unfold meas; rw [hany]; simp
        refine ih _ _ (by omega) (hR.erase i) ?_ (fun x hx hxs => ?_) ?_
        · intro y hy
          rcases List.mem_append.1 hy with hy | hy
          · exact hok y hy
          · rw [List.mem_singleton.1 hy]; exact hR.ok m hmem
        · rw [List.foldl_append, ← hW x hx hxs]
          exact final_take hR hl16 hm hfr hx
        · have h3 : cyc ((m0 :: r).eraseIdx i) 16 ≤ cyc (m0 :: r) 16 := cyc_mono (fun x hx hc => Cyc.erase hR i hx hc) 16
          have h4 : ((m0 :: r).eraseIdx i).length = (m0 :: r).length - 1 := by rw [List.length_eraseIdx, if_pos hi]
          have h5 : 1 ≤ (m0 :: r).length := by simp
          rw [List.length_append, List.length_singleton]; omega
      | none =>
        simp only [movesGo, hf]
        have hn : ∀ m ∈ m0 :: r, ∃ y ∈ m0 :: r, y.2 = m.1 := fun m hm => by
          have h1 := List.findIdx?_eq_none_iff.1 hf m hm
          simp only [free, Bool.not_eq_false', List.any_eq_true, decide_eq_true_eq] at h1
          exact h1
        have hmo := meas_open hR.ne hf
        have hm0 : m0 ∈ m0 :: r := by simp
        refine ih _ _ (by omega) (hR.opened hs) ?_ (fun x hx hxs => ?_) ?_
        · intro y hy
          rcases List.mem_append.1 hy with hy | hy
          · exact hok y hy
          · rw [List.mem_singleton.1 hy]; exact ⟨hs, (hR.ok m0 hm0).1⟩
        · rw [List.foldl_append, ← hW x hx hxs]
          exact final_open hR hl16 hs (hR.ok m0 hm0).1 (no_spare hR hn) hx hxs
        · have h3 := cyc_opened hs hR hn hm0
          rw [List.length_append, List.length_singleton, List.length_map]; omega
theorem moves_law {l : List Mv} {spare : Int} (h : mayB l spare = true) : (∀ m ∈ movesF l spare, okM m) ∧ (∀ x, 0 ≤ x ∧ x ≤ 15 → x ≠ spare → getI ((movesF l spare).foldl regStep id16) x = getI (l.foldl wantStep id16) x) ∧ ((movesF l spare).length : Int) ≤ cyclesF l + cntTo l := by
  have hR := Rest.of_may h
  have hs : 0 ≤ spare ∧ spare ≤ 15 := by simpa [okReg] using (mayB_iff.1 h).1
  have hlc : (clean l).length ≤ l.length := List.length_filter_le _ _
  obtain ⟨h1, h2, h3⟩ := go_law hs (fun x => getI (l.foldl wantStep id16) x) ((clean l).length + cyc (clean l) 16) (2 * l.length + 1) (clean l) [] (Nat.le_trans (meas_le _) (by omega)) hR.clean (by simp) (fun x hx hxs => want_final hR hx) (by simp)
  refine ⟨h1, h2, ?_⟩
  have h4 := cyc_le_cycTo hR 16 (Nat.le_refl _)
  unfold movesF cyclesF cntTo
  omega
end Go.Proofs.Ytkbggjhfiemhoaa
