/- Plain facts: the way back from a parameter ends if and only if there is an order. -/
import Derived.Test.YtnihkdmdbmnniaaPlain4
set_option linter.unusedSimpArgs false
namespace Go.Proofs.Ytnihkdmdbmnniaa

/-- The way back: after s steps. -/
def chain (ls : List Lk) (p : Int) : Nat → Option Int
  | 0 => some p
  | s + 1 => match chain ls p s with
    | none => none
    | some q => (src ls q).map Lk.fr

def circ (ls : List Lk) (n : Nat) : Bool := (List.range n).any fun (p : Nat) => (chain ls p (n + 1)).isSome

theorem chain_none (ls : List Lk) (p : Int) (s : Nat) (h : chain ls p s = none) : ∀ d, chain ls p (s + d) = none
  | 0 => h
  | d + 1 => by
    show chain ls p (s + d + 1) = none
    simp only [chain, chain_none ls p s h d]

theorem circ_true {ls : List Lk} {n p : Nat} (hp : p < n) {q : Int} (h : chain ls p (n + 1) = some q) : circ ls n = true := by
  unfold circ
  rw [List.any_eq_true]
  exact ⟨p, by simpa using hp, by rw [h]; rfl⟩

theorem circ_false {ls : List Lk} {n : Nat} (h : ∀ p : Nat, p < n → chain ls p (n + 1) = none) : circ ls n = false := by
  unfold circ
  rw [List.any_eq_false]
  intro p hp
  rw [h p (by simpa using hp)]
  simp

theorem nodup_range (n : Nat) : ((List.range n).map fun (i : Nat) => (i : Int)).Nodup := by
  refine List.pairwise_iff_getElem.2 fun i j hi hj hij => ?_
  simp
  omega

theorem ordK_stop (ls : List Lk) (n : Nat) : ∀ k, ordK ls n k = none → ∃ j os, j < k ∧ ordK ls n j = some os ∧ nextF ls os n = none
  | 0, h => by simp [ordK] at h
  | k + 1, h => by
    simp only [ordK] at h
    cases h1 : ordK ls n k with
    | none =>
      obtain ⟨j, os, hj, h2, h3⟩ := ordK_stop ls n k h1
      exact ⟨j, os, by omega, h2, h3⟩
    | some os =>
      rw [h1] at h
      cases h2 : nextF ls os n with
      | none => exact ⟨k, os, by omega, h1, h2⟩
      | some p => simp [h2] at h

theorem next_none {ls : List Lk} {os : List Int} {n : Nat} (h : nextF ls os n = none) (p : Nat) (hp : p < n) (hm : (p : Int) ∉ os) : ∃ x, src ls p = some x ∧ x.fr ∉ os := by
  unfold nextF at h
  rw [List.find?_eq_none] at h
  have := h p (by simpa using hp)
  unfold rdy at this
  cases hs : src ls p with
  | none => rw [hs] at this; simp [hm] at this
  | some x =>
    rw [hs] at this
    simp only [hm, decide_false, Bool.not_false, Bool.true_and, decide_eq_true_eq] at this
    exact ⟨x, rfl, this⟩

theorem circ_iff {n : Nat} {ls : List Lk} (hb : badL n ls = false) : circ ls n = true ↔ ordK ls n n = none := by
  have ⟨b1, b2⟩ := badL_spec hb
  have hnd := (mapOf_len ls).2.1 b1
  cases ho : ordK ls n n with
  | some os =>
    simp only [reduceCtorEq, iff_false, Bool.not_eq_true]
    have ⟨p1, p2, p3, p4, p5⟩ := ord_before ho hnd
    refine circ_false fun p hp => ?_
    have hin : ∀ q : Int, q ∈ os → 1 ≤ pos1 os q ∧ pos1 os q ≤ n := by
      intro q hq
      unfold pos1
      rw [if_pos hq]
      have : os.idxOf q < os.length := List.idxOf_lt_length_iff.2 hq
      omega
    have key : ∀ s q, chain ls p s = some q → q ∈ os ∧ pos1 os q + s ≤ n := by
      intro s
      induction s with
      | zero =>
        intro q hq
        simp [chain] at hq
        subst hq
        have := hin p (p4 p hp)
        exact ⟨p4 p hp, by omega⟩
      | succ s ih =>
        intro q hq
        simp only [chain] at hq
        cases h1 : chain ls p s with
        | none => rw [h1] at hq; cases hq
        | some r =>
          rw [h1] at hq
          dsimp only at hq
          have ⟨i1, i2⟩ := ih r h1
          cases h2 : src ls r with
          | none => rw [h2] at hq; cases hq
          | some x =>
            rw [h2] at hq
            simp at hq
            subst hq
            have ⟨m1, m2⟩ := src_mem h2
            have ok := okL_spec (b2 x m1)
            have hlt := p5 x m1 ok.2.1.1 (by omega)
            rw [m2] at hlt
            have hfr : x.fr ∈ os := by
              have := p4 x.fr.toNat (by omega)
              rwa [Int.toNat_of_nonneg ok.1.1] at this
            exact ⟨hfr, by omega⟩
    cases hc : chain ls p (n + 1) with
    | none => rfl
    | some q =>
      have ⟨k1, k2⟩ := key _ _ hc
      have := hin q k1
      omega
  | none =>
    simp only [iff_true]
    obtain ⟨j, os, hj, h1, h2⟩ := ordK_stop ls n n ho
    have hl := (ordK_mem ls n j os h1).1
    have hex : ∃ p : Nat, p < n ∧ (p : Int) ∉ os := by
      rcases Classical.em (∃ p : Nat, p < n ∧ (p : Int) ∉ os) with h | h
      · exact h
      · exfalso
        have := nodup_len ((List.range n).map fun (i : Nat) => (i : Int)) os (nodup_range n) (by
          intro x hx
          obtain ⟨i, hi, rfl⟩ := List.mem_map.1 hx
          rcases Classical.em ((i : Int) ∈ os) with h' | h'
          · exact h'
          · exact absurd ⟨i, by simpa using hi, h'⟩ h)
        simp at this
        omega
    obtain ⟨p, hp, hpo⟩ := hex
    have key : ∀ s, ∃ q : Nat, q < n ∧ (q : Int) ∉ os ∧ chain ls p s = some (q : Int) := by
      intro s
      induction s with
      | zero => exact ⟨p, hp, hpo, rfl⟩
      | succ s ih =>
        obtain ⟨q, hq, hqo, hc⟩ := ih
        obtain ⟨x, hx, hxo⟩ := next_none h2 q hq hqo
        have ⟨m1, m2⟩ := src_mem hx
        have ok := okL_spec (b2 x m1)
        refine ⟨x.fr.toNat, by omega, by rw [Int.toNat_of_nonneg ok.1.1]; exact hxo, ?_⟩
        simp only [chain, hc, hx, Option.map_some, Int.toNat_of_nonneg ok.1.1]
    obtain ⟨q, _, _, hc⟩ := key (n + 1)
    exact circ_true hp hc
end Go.Proofs.Ytnihkdmdbmnniaa
