/- Plain facts on the values of parameters. -/
import Derived.Test.YtnihkdmdbmnniaaW5
namespace Go.Proofs.Ytnihkdmdbmnniaa
open Go.RowKit

/-- The value that a link determines. -/
def linkV (k : Lk) (x : Int) : Int := clip (x * k.num / k.den + k.add)

def valStep (ls : List Lk) (vs x : List Int) (p : Int) : List Int :=
  x.set p.toNat (match src ls p with | some k => linkV k (x.getD k.fr.toNat 0) | none => clip (vs.getD p.toNat 0))

def valL (ls : List Lk) (vs os : List Int) : List Int := os.foldl (valStep ls vs) (List.replicate vs.length 0)

/-- What Values answers. -/
def valR (ls : List Lk) (vs : List Int) : List Int × Int :=
  if (ordR vs.length ls).2 = 0 then (valL ls vs (ordR vs.length ls).1, 0) else ([], (ordR vs.length ls).2)

theorem valStep_length (ls : List Lk) (vs x : List Int) (p : Int) : (valStep ls vs x p).length = x.length := by simp [valStep]

theorem foldl_valStep_length (ls : List Lk) (vs : List Int) : ∀ (os x : List Int), (os.foldl (valStep ls vs) x).length = x.length
  | [], _ => rfl
  | p :: os, x => by rw [List.foldl_cons, foldl_valStep_length ls vs os, valStep_length]

theorem valL_length (ls : List Lk) (vs os : List Int) : (valL ls vs os).length = vs.length := by
  unfold valL; rw [foldl_valStep_length]; simp

/-- All values are samples. -/
def Smp (x : List Int) : Prop := ∀ j, -2147483648 ≤ x.getD j 0 ∧ x.getD j 0 ≤ 2147483647

theorem smp_set (x : List Int) (h : Smp x) (i : Nat) (y : Int) : Smp (x.set i (clip y)) := by
  intro j
  have hy := clip_le y
  have hx := h j
  simp only [List.getD, List.getElem?_set] at *
  split
  · split
    · simpa using hy
    · simp
  · exact hx

theorem smp_step (ls : List Lk) (vs x : List Int) (p : Int) (h : Smp x) : Smp (valStep ls vs x p) := by
  unfold valStep linkV
  split <;> exact smp_set x h _ _

theorem smp_fold (ls : List Lk) (vs : List Int) : ∀ (os x : List Int), Smp x → Smp (os.foldl (valStep ls vs) x)
  | [], _, h => h
  | p :: os, x, h => smp_fold ls vs os _ (smp_step ls vs x p h)

theorem smp_zero (n : Nat) : Smp (List.replicate n 0) := by
  intro j
  simp [List.getD, List.getElem?_replicate]
  split <;> simp

theorem smp_valK (ls : List Lk) (vs os : List Int) (j : Nat) : Smp ((os.take j).foldl (valStep ls vs) (List.replicate vs.length 0)) := smp_fold ls vs _ _ (smp_zero _)

theorem ordK_mem (ls : List Lk) (n : Nat) : ∀ (k : Nat) (os : List Int), ordK ls n k = some os → os.length = k ∧ ∀ p ∈ os, ∃ q : Nat, q < n ∧ p = q
  | 0, os, h => by
    simp [ordK] at h
    subst h
    simp
  | k + 1, os, h => by
    simp only [ordK] at h
    cases h1 : ordK ls n k with
    | none => rw [h1] at h; cases h
    | some os0 =>
      rw [h1] at h
      cases h2 : nextF ls os0 n with
      | none => simp [h2] at h
      | some p =>
        simp [h2] at h
        subst h
        have ⟨e1, e2⟩ := ordK_mem ls n k os0 h1
        refine ⟨by simp [e1], fun q hq => ?_⟩
        rcases List.mem_append.1 hq with hq | hq
        · exact e2 q hq
        · simp at hq
          exact ⟨p, (next_not_mem h2).2, hq⟩

/-- What is known if Order succeeds. -/
theorem ordR_ok {n : Int} {ls : List Lk} (h : (ordR n ls).2 = 0) : 0 ≤ n ∧ n ≤ 256 ∧ ls.length ≤ 256 ∧ badL n ls = false ∧ ordK ls n.toNat n.toNat = some (ordR n ls).1 := by
  unfold ordR at h ⊢
  by_cases h1 : n < 0 ∨ 256 < n
  · rw [if_pos h1] at h; simp at h
  · rw [if_neg h1] at h ⊢
    by_cases h2 : 256 < ls.length
    · rw [if_pos h2] at h; simp at h
    · rw [if_neg h2] at h ⊢
      cases h3 : badL n ls with
      | true => rw [h3] at h; simp at h
      | false =>
        rw [h3] at h
        simp only [Bool.false_eq_true, if_false] at h ⊢
        cases h4 : ordK ls n.toNat n.toNat with
        | none => rw [h4] at h; simp at h
        | some os => exact ⟨by omega, by omega, by omega, trivial, rfl⟩

theorem ordR_fst {n : Int} {ls : List Lk} (h : (ordR n ls).2 ≠ 0) : (ordR n ls).1 = [] := by
  unfold ordR at h ⊢
  split
  · rfl
  · split
    · rfl
    · split
      · rfl
      · rename_i h1 h2 h3
        rw [if_neg h1, if_neg h2, if_neg h3] at h
        cases h4 : ordK ls n.toNat n.toNat with
        | none => rfl
        | some os => rw [h4] at h; simp at h

theorem src_mem {ls : List Lk} {p : Int} {k : Lk} (h : src ls p = some k) : k ∈ ls ∧ k.to = p := by
  unfold src at h
  have h1 := List.mem_of_find?_eq_some h
  have h2 := List.find?_some h
  exact ⟨by simpa using h1, by simpa using h2⟩

theorem okL_spec {n : Int} {k : Lk} (h : okL n k = true) : (0 ≤ k.fr ∧ k.fr ≤ n - 1) ∧ (0 ≤ k.to ∧ k.to ≤ n - 1) ∧ k.fr ≠ k.to ∧ (-2147483647 ≤ k.num ∧ k.num ≤ 2147483647) ∧ (1 ≤ k.den ∧ k.den ≤ 2147483647) ∧ (-2147483648 ≤ k.add ∧ k.add ≤ 2147483647) := by
  simp only [okL, inB, Bool.and_eq_true, decide_eq_true_eq, bne_iff_ne, ne_eq] at h
  obtain ⟨⟨⟨⟨⟨h1, h2⟩, h3⟩, h4⟩, h5⟩, h6⟩ := h
  exact ⟨h1, h2, h3, h4, h5, h6⟩

theorem badL_spec {n : Int} {ls : List Lk} (h : badL n ls = false) : (mapOf ls).length = ls.length ∧ ∀ k ∈ ls, okL n k = true := by
  simp only [badL, Bool.or_eq_false_iff, Bool.not_eq_false', decide_eq_true_eq, List.all_eq_true] at h
  exact h

theorem mul_bd (x y : Int) (hx : -2147483648 ≤ x ∧ x ≤ 2147483647) (hy : -2147483647 ≤ y ∧ y ≤ 2147483647) : -4611686018427387904 ≤ x * y ∧ x * y ≤ 4611686018427387904 := by
  have h1 : (x * y).natAbs ≤ 2147483648 * 2147483648 := by
    rw [Int.natAbs_mul]
    exact Nat.mul_le_mul (by omega) (by omega)
  omega

theorem div_bd (a b : Int) (h1 : -4611686018427387904 ≤ a) (h2 : a ≤ 4611686018427387904) (hb : 1 ≤ b) : -4611686018427387904 ≤ a / b ∧ a / b ≤ 4611686018427387904 := by
  constructor
  · have : (-4611686018427387904 : Int) * b ≤ a := by
      have : (-4611686018427387904 : Int) * b ≤ -4611686018427387904 * 1 := Int.mul_le_mul_of_nonpos_left (by omega) hb
      omega
    exact Int.le_ediv_of_mul_le (by omega) this
  · refine Int.ediv_le_of_le_mul (by omega) ?_
    have : (4611686018427387904 : Int) * 1 ≤ 4611686018427387904 * b := Int.mul_le_mul_of_nonneg_left hb (by omega)
    omega

end Go.Proofs.Ytnihkdmdbmnniaa
