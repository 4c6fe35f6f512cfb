/- Plain: moves' cycles. -/
import Derived.Test.YtkbggjhfiemhoaaFlp
namespace Go.Proofs.Ytkbggjhfiemhoaa
def it (rest : List Mv) : Nat → Int → Int
  | 0, x => x
  | k + 1, x => src rest (it rest k x)
theorem it_add (rest : List Mv) (m n : Nat) (x : Int) : it rest (m + n) x = it rest m (it rest n x) := by
  induction m with
  | zero => simp [it]
  | succ m ih => rw [Nat.add_right_comm, it, it, ih]
theorem it_mul {rest : List Mv} {p : Nat} {x : Int} (h : it rest p x = x) (q : Nat) : it rest (p * q) x = x := by
  induction q with
  | zero => rfl
  | succ q ih => rw [Nat.mul_succ, it_add, h, ih]
theorem it_mod {rest : List Mv} {p : Nat} {x : Int} (h : it rest p x = x) (n : Nat) : it rest n x = it rest (n % p) x := by
  have h1 : n = n % p + p * (n / p) := (Nat.mod_add_div n p).symm
  have h2 := it_add rest (n % p) (p * (n / p)) x
  rw [it_mul h] at h2
  rw [← h2, ← h1]
theorem src_range {spare : Int} {rest : List Mv} (h : Rest spare rest) (x : Int) : -1 ≤ src rest x ∧ src rest x ≤ 15 := by
  rcases src_cases h x with ⟨m, hm, _, hs⟩ | ⟨_, hs⟩
  · have := (h.ok m hm).2; omega
  · omega
theorem src_neg {spare : Int} {rest : List Mv} (h : Rest spare rest) {x : Int} (hx : x < 0) : src rest x = -1 := src_none fun m hm => by have := (h.ok m hm).1; omega
theorem it_neg {spare : Int} {rest : List Mv} (h : Rest spare rest) {x : Int} {j : Nat} (hj : it rest j x < 0) : ∀ d, it rest (d + j) x < 0 := by
  intro d
  induction d with
  | zero => simpa using hj
  | succ d ih => rw [Nat.add_right_comm, it, src_neg h ih]; omega
/-- x is the least on a cycle, k steps long. -/
def CycK (rest : List Mv) (x : Int) (k : Nat) : Prop := 1 ≤ k ∧ k ≤ 16 ∧ it rest k x = x ∧ ∀ j, j ≤ k → x ≤ it rest j x
def Cyc (rest : List Mv) (x : Int) : Prop := ∃ k, CycK rest x k
open Classical in
noncomputable def cyc (rest : List Mv) (n : Nat) : Nat := ((List.range n).filter fun (i : Nat) => decide (Cyc rest (i : Int))).length
theorem cyc_succ (rest : List Mv) (n : Nat) : cyc rest (n + 1) = cyc rest n + (open Classical in if Cyc rest (n : Int) then 1 else 0) := by
  unfold cyc
  rw [List.range_succ, List.filter_append, List.length_append]
  congr 1
  by_cases h : Cyc rest (n : Int) <;> simp [h]
theorem cyc_mono {r r' : List Mv} (h : ∀ x : Int, 0 ≤ x → Cyc r' x → Cyc r x) (n : Nat) : cyc r' n ≤ cyc r n := by
  induction n with
  | zero => exact Nat.le_refl _
  | succ n ih =>
    rw [cyc_succ, cyc_succ]
    by_cases h1 : Cyc r' (n : Int)
    · rw [if_pos h1, if_pos (h _ (by omega) h1)]; omega
    · rw [if_neg h1]; split <;> omega
theorem cyc_lt {r r' : List Mv} (h : ∀ x : Int, 0 ≤ x → Cyc r' x → Cyc r x) {i : Nat} (hi : Cyc r (i : Int)) (hi' : ¬ Cyc r' (i : Int)) (n : Nat) : cyc r' n + (if i < n then 1 else 0) ≤ cyc r n := by
  induction n with
  | zero => simp [cyc]
  | succ n ih =>
    rw [cyc_succ, cyc_succ]
    by_cases hin : i = n
    · subst hin
      rw [if_neg hi', if_pos hi, if_pos (by omega)]
      have := cyc_mono h i
      omega
    · have e : (if i < n + 1 then 1 else 0) = (if i < n then 1 else 0) := by
        by_cases h2 : i < n
        · rw [if_pos h2, if_pos (by omega)]
        · rw [if_neg h2, if_neg (by omega)]
      rw [e]
      generalize (if i < n then 1 else 0) = dd at ih ⊢
      by_cases h1 : Cyc r' (n : Int)
      · rw [if_pos h1, if_pos (h _ (by omega) h1)]; omega
      · rw [if_neg h1]; split <;> omega
theorem CycK.mono {r r' : List Mv} {x : Int} {k : Nat} (hc : CycK r' x k) (h : ∀ j, j < k → src r (it r' j x) = src r' (it r' j x)) : CycK r x k ∧ ∀ j, j ≤ k → it r j x = it r' j x := by
  have e : ∀ j, j ≤ k → it r j x = it r' j x := by
    intro j
    induction j with
    | zero => intro _; rfl
    | succ j ih => intro hj; rw [it, it, ih (by omega), h j (by omega)]
  refine ⟨⟨hc.1, hc.2.1, by rw [e k (Nat.le_refl _)]; exact hc.2.2.1, fun j hj => by rw [e j hj]; exact hc.2.2.2 j hj⟩, e⟩
theorem Cyc.erase {spare : Int} {rest : List Mv} (h : Rest spare rest) (i : Nat) {x : Int} (hx : 0 ≤ x) (hc : Cyc (rest.eraseIdx i) x) : Cyc rest x := by
  obtain ⟨k, hc⟩ := hc
  refine ⟨k, (hc.mono fun j hj => ?_).1⟩
  have h1 := hc.2.2.2 (j + 1) hj
  rw [it] at h1
  rcases src_cases (h.erase i) (it (rest.eraseIdx i) j x) with ⟨m, hm, he, hs⟩ | ⟨_, hs⟩
  · rw [hs, ← he]; exact src_of h (List.mem_of_mem_eraseIdx hm)
  · omega
theorem Cyc.opened {spare first : Int} {rest : List Mv} (hs : 0 ≤ spare ∧ spare ≤ 15) (h : Rest spare rest) {x : Int} (hx : 0 ≤ x) {k : Nat} (hc : CycK (rest.map (openAll first spare)) x k) : CycK rest x k ∧ ∀ j, 1 ≤ j → j ≤ k → it rest j x ≠ first := by
  have h' := h.opened (first := first) hs
  have hsp : src (rest.map (openAll first spare)) spare = -1 := src_none fun m hm => h'.ne m hm
  have hns : ∀ j, j ≤ k → it (rest.map (openAll first spare)) j x ≠ spare := by
    intro j hj he
    by_cases hjk : j < k
    · have h1 := hc.2.2.2 (j + 1) hjk
      rw [it, he, hsp] at h1; omega
    · have : j = k := by omega
      subst this
      rw [hc.2.2.1] at he
      have h1 := hc.2.2.2 1 hc.1
      rw [it, it, he, hsp] at h1; omega
  have key : ∀ j, j < k → src rest (it (rest.map (openAll first spare)) j x) = src (rest.map (openAll first spare)) (it (rest.map (openAll first spare)) j x) ∧ src rest (it (rest.map (openAll first spare)) j x) ≠ first := by
    intro j hj
    have h1 := hc.2.2.2 (j + 1) hj
    have h2 := hns (j + 1) hj
    rw [it] at h1 h2
    rcases src_cases h' (it (rest.map (openAll first spare)) j x) with ⟨m, hm, he, hsr⟩ | ⟨_, hsr⟩
    · obtain ⟨y, hy, rfl⟩ := List.mem_map.1 hm
      rw [openAll_to] at he
      have h3 := src_of h hy
      rw [he] at h3
      rw [hsr] at h2
      rw [hsr, h3]
      unfold openAll at h2 ⊢
      by_cases hf : y.2 = first
      · rw [if_pos hf] at h2; exact absurd rfl h2
      · rw [if_neg hf]; exact ⟨rfl, hf⟩
    · omega
  obtain ⟨h1, h2⟩ := hc.mono fun j hj => (key j hj).1
  refine ⟨h1, fun j hj1 hjk => ?_⟩
  obtain ⟨j', rfl⟩ : ∃ j', j = j' + 1 := ⟨j - 1, by omega⟩
  rw [it, h2 j' (by omega)]
  exact (key j' (by omega)).2
/-! ### Pigeons -/
theorem pigeon : ∀ (N : Nat) (f : Nat → Nat), (∀ n, n ≤ N → f n < N) → ∃ a b, a < b ∧ b ≤ N ∧ f a = f b := by
  intro N
  induction N with
  | zero => intro f h; exact absurd (h 0 (Nat.le_refl _)) (by omega)
  | succ N ih =>
    intro f h
    by_cases hex : ∃ a, a < N + 1 ∧ f a = f (N + 1)
    · obtain ⟨a, ha, he⟩ := hex; exact ⟨a, N + 1, ha, Nat.le_refl _, he⟩
    · have hno : ∀ a, a < N + 1 → f a ≠ f (N + 1) := fun a ha he => hex ⟨a, ha, he⟩
      obtain ⟨a, b, hab, hb, he⟩ := ih (fun n => if f n = N then f (N + 1) else f n) (fun n hn => by
        have h1 := h n (by omega)
        have h2 := h (N + 1) (Nat.le_refl _)
        have h3 := hno n (by omega)
        show (if f n = N then f (N + 1) else f n) < N
        split <;> omega)
      have h1 := hno a (by omega)
      have h2 := hno b (by omega)
      refine ⟨a, b, hab, by omega, ?_⟩
      split at he <;> split at he <;> omega
theorem least_of (f : Nat → Int) : ∀ p, 1 ≤ p → ∃ j, j < p ∧ ∀ i, i < p → f j ≤ f i := by
  intro p
  induction p with
  | zero => intro h; omega
  | succ p ih =>
    intro _
    by_cases hp : p = 0
    · subst hp; exact ⟨0, by omega, fun i hi => by rw [show i = 0 from by omega]; exact Int.le_refl _⟩
    · obtain ⟨j, hj, hl⟩ := ih (by omega)
      by_cases h : f j ≤ f p
      · refine ⟨j, by omega, fun i hi => ?_⟩
        by_cases hip : i = p
        · subst hip; exact h
        · exact hl i (by omega)
      · refine ⟨p, by omega, fun i hi => ?_⟩
        by_cases hip : i = p
        · subst hip; exact Int.le_refl _
        · have := hl i (by omega); omega
/-! ### Where nothing is free -/
theorem on_cycle {spare : Int} {rest : List Mv} (h : Rest spare rest) (hn : ∀ m ∈ rest, ∃ y ∈ rest, y.2 = m.1) {m : Mv} (hm : m ∈ rest) : ∃ p, 1 ≤ p ∧ p ≤ 16 ∧ it rest p m.1 = m.1 := by
  have hpr : ∀ t : {t : Int // ∃ m ∈ rest, m.1 = t}, ∃ u : {t : Int // ∃ m ∈ rest, m.1 = t}, src rest u.1 = t.1 := by
    rintro ⟨t, m, hm, rfl⟩
    obtain ⟨y, hy, he⟩ := hn m hm
    exact ⟨⟨y.1, y, hy, rfl⟩, by rw [src_of h hy, he]⟩
  let pr := fun t => Classical.choose (hpr t)
  have hpr' : ∀ t, src rest (pr t).1 = t.1 := fun t => Classical.choose_spec (hpr t)
  let bs : Nat → {t : Int // ∃ m ∈ rest, m.1 = t} := fun n => Nat.rec ⟨m.1, m, hm, rfl⟩ (fun _ t => pr t) n
  have hb : ∀ n, src rest (bs (n + 1)).1 = (bs n).1 := fun n => hpr' (bs n)
  have hback : ∀ j n, it rest j (bs (n + j)).1 = (bs n).1 := by
    intro j
    induction j with
    | zero => intro n; rfl
    | succ j ih => intro n; rw [show n + (j + 1) = (n + 1) + j from by omega, it, ih (n + 1), hb]
  have hr : ∀ n, 0 ≤ (bs n).1 ∧ (bs n).1 ≤ 15 := fun n => by
    obtain ⟨y, hy, he⟩ := (bs n).2
    rw [← he]; exact (h.ok y hy).1
  obtain ⟨a, b, hab, hb16, he⟩ := pigeon 16 (fun n => (bs n).1.toNat) (fun n _ => by have := hr n; show (bs n).1.toNat < 16; omega)
  have he' : (bs a).1 = (bs b).1 := by have h1 := hr a; have h2 := hr b; omega
  have h1 : it rest (b - a) (bs b).1 = (bs b).1 := by
    have := hback (b - a) a
    rw [show a + (b - a) = b from by omega, he'] at this; exact this
  have h2 : it rest b (bs b).1 = m.1 := by
    have := hback b 0
    rw [Nat.zero_add] at this; exact this
  refine ⟨b - a, by omega, by omega, ?_⟩
  rw [← h2, ← it_add, Nat.add_comm, it_add, h1]
theorem on_cycle_pos {spare : Int} {rest : List Mv} (h : Rest spare rest) {x : Int} {p : Nat} (hx : 0 ≤ x) (hp : it rest p x = x) (hp1 : 1 ≤ p) (j : Nat) : 0 ≤ it rest j x := by
  rw [it_mod hp]
  have hlt := Nat.mod_lt j (show p > 0 by omega)
  by_cases hc : it rest (j % p) x < 0
  · have := it_neg h hc (p - j % p)
    rw [show p - j % p + j % p = p from by omega, hp] at this; omega
  · omega
theorem it_le {spare : Int} {rest : List Mv} (h : Rest spare rest) {x : Int} (hx : x ≤ 15) (j : Nat) : it rest j x ≤ 15 := by
  cases j with
  | zero => exact hx
  | succ j => exact (src_range h _).2
/-- Opening takes a cycle away. -/
theorem cyc_opened {spare : Int} {rest : List Mv} (hs : 0 ≤ spare ∧ spare ≤ 15) (h : Rest spare rest) (hn : ∀ m ∈ rest, ∃ y ∈ rest, y.2 = m.1) {m : Mv} (hm : m ∈ rest) : cyc (rest.map (openAll m.1 spare)) 16 + 1 ≤ cyc rest 16 := by
  obtain ⟨p, hp1, hp16, hp⟩ := on_cycle h hn hm
  have hx := (h.ok m hm).1
  have hpos := on_cycle_pos h hx.1 hp hp1
  obtain ⟨j0, hj0, hl⟩ := least_of (fun j => it rest j m.1) p hp1
  obtain ⟨i, hi⟩ := Int.eq_ofNat_of_zero_le (hpos j0)
  have hi16 : i < 16 := by have := it_le h hx.2 j0; omega
  have hper : it rest p (i : Int) = i := by rw [← hi, ← it_add, Nat.add_comm, it_add, hp]
  have hfirst : it rest (p - j0) (i : Int) = m.1 := by rw [← hi, ← it_add, show p - j0 + j0 = p from by omega, hp]
  have hc : Cyc rest (i : Int) := ⟨p, hp1, hp16, hper, fun j hj => by
    rw [← hi, ← it_add, it_mod hp (j + j0)]
    exact hl _ (Nat.mod_lt _ (by omega))⟩
  have hc' : ¬ Cyc (rest.map (openAll m.1 spare)) (i : Int) := by
    rintro ⟨k, hk⟩
    obtain ⟨h1, h2⟩ := Cyc.opened hs h (by omega) hk
    rw [it_mod h1.2.2.1] at hfirst
    by_cases hr : (p - j0) % k = 0
    · rw [hr] at hfirst
      refine h2 k h1.1 (Nat.le_refl _) ?_
      rw [h1.2.2.1]; exact hfirst
    · exact h2 _ (by omega) (Nat.le_of_lt (Nat.mod_lt _ h1.1)) hfirst
  have := cyc_lt (r := rest) (r' := rest.map (openAll m.1 spare)) (fun x hx hc => by obtain ⟨k, hk⟩ := hc; exact ⟨k, (Cyc.opened hs h hx hk).1⟩) hc hc' 16
  rw [if_pos hi16] at this
  exact this
/-- Where nothing is free, nothing comes from the spare register. -/
theorem no_spare {spare : Int} {rest : List Mv} (h : Rest spare rest) (hn : ∀ m ∈ rest, ∃ y ∈ rest, y.2 = m.1) : ∀ m ∈ rest, m.2 ≠ spare := by
  intro m hm he
  obtain ⟨p, hp1, hp16, hp⟩ := on_cycle h hn hm
  have hx := (h.ok m hm).1
  have h2 := on_cycle_pos h hx.1 hp hp1 2
  rw [it, it, it, src_of h hm, he, src_none fun m hm => h.ne m hm] at h2
  omega
end Go.Proofs.Ytkbggjhfiemhoaa
