/- Plain: how a frame is laid. -/
namespace Go.Proofs.Ytkbggjhfiemhoaa
def upZ (n : Int) (of : Int) : Int := (n + of - 1) / of * of
theorem upZ_le {n of : Int} (h0 : 0 ≤ n) (h1 : 1 ≤ of) : 0 ≤ upZ n of ∧ upZ n of ≤ n + of - 1 := by
  unfold upZ
  have h2 : 0 ≤ (n + of - 1) / of := Int.ediv_nonneg (by omega) (by omega)
  refine ⟨Int.mul_nonneg h2 (by omega), Int.ediv_mul_le _ (by omega)⟩
abbrev Sl := Int × Int
def okSlot (s : Sl) : Bool := decide (1 ≤ s.1) && (decide (s.1 ≤ 16384) && (decide (s.2 = 1) || (decide (s.2 = 2) || decide (s.2 = 4))))
def ofGo : List Sl → Int → List Int → Option (List Int × Int)
  | [], at_, out => some (out, at_)
  | s :: r, at_, out => if okSlot s then ofGo r (upZ at_ s.2 + s.1) (out ++ [upZ at_ s.2]) else none
def ofEnd (temps : Int) (o : List Int) (at_ : Int) : Option (List Int × Int × Int × Int) :=
  if 65536 < upZ (upZ (upZ at_ 4 + 4 * temps) 4 + 4) 8 then none else some (o, upZ at_ 4, upZ (upZ at_ 4 + 4 * temps) 4, upZ (upZ (upZ at_ 4 + 4 * temps) 4 + 4) 8)
def ofF (temps : Int) (slots : List Sl) : Option (List Int × Int × Int × Int) :=
  if slots.length > 256 ∨ temps < 0 ∨ temps > 10 then none else (ofGo slots 0 []).bind fun p => ofEnd temps p.1 p.2
theorem okSlot_spec {s : Sl} (h : okSlot s = true) : 1 ≤ s.1 ∧ s.1 ≤ 16384 ∧ 1 ≤ s.2 ∧ s.2 ≤ 4 := by
  simp only [okSlot, Bool.and_eq_true, Bool.or_eq_true, decide_eq_true_eq] at h
  omega
end Go.Proofs.Ytkbggjhfiemhoaa
