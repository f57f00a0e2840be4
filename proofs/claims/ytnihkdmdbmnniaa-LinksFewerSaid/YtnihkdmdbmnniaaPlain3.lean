/- Plain facts: the order lists each parameter once, after its source. -/
import Derived.Test.YtnihkdmdbmnniaaPlain2
set_option linter.unusedSimpArgs false
namespace Go.Proofs.Ytnihkdmdbmnniaa

theorem nodup_len : ∀ (l m : List Int), l.Nodup → (∀ x ∈ l, x ∈ m) → l.length ≤ m.length
  | [], m, _, _ => by simp
  | a :: l, m, hn, h => by
    have ⟨h1, h2⟩ := List.nodup_cons.1 hn
    have ha : a ∈ m := h a (by simp)
    have := nodup_len l (m.erase a) h2 (fun x hx => (List.mem_erase_of_ne (fun (e : x = a) => h1 (by rw [← e]; exact hx))).2 (h x (by simp [hx])))
    rw [List.length_erase_of_mem ha] at this
    have : 0 < m.length := List.length_pos_of_mem ha
    simp
    omega

theorem mput_len : ∀ (m : List (Int × Value)) (k : Int) (v : Value), (mput m k v).length = if mlook m k = none then m.length + 1 else m.length
  | [], k, v => by simp [mput, mlook]
  | (k', v') :: m, k, v => by
    unfold mput mlook
    by_cases h : k = k'
    · simp [h]
    · simp only [if_neg h, List.length_cons, mput_len m k v]
      split <;> simp

theorem src_none {ls : List Lk} {p : Int} : src ls p = none ↔ p ∉ ls.map Lk.to := by
  unfold src
  rw [List.find?_eq_none]
  simp

theorem mapOf_len (ls : List Lk) : (mapOf ls).length ≤ ls.length ∧ ((mapOf ls).length = ls.length ↔ (ls.map Lk.to).Nodup) := by
  have h : ∀ (n : Nat) (ls : List Lk), ls.length = n → (mapOf ls).length ≤ ls.length ∧ ((mapOf ls).length = ls.length ↔ (ls.map Lk.to).Nodup) := by
    intro n
    induction n with
    | zero =>
      intro ls hl
      have : ls = [] := List.eq_nil_of_length_eq_zero hl
      subst this
      simp [mapOf]
    | succ n ih =>
      intro ls hl
      have hne : ls ≠ [] := by rintro rfl; simp at hl
      have e := List.dropLast_concat_getLast hne
      generalize ls.dropLast = l0 at *
      generalize ls.getLast hne = x at *
      subst e
      have ⟨i1, i2⟩ := ih l0 (by simpa using hl)
      rw [mapOf_snoc, mput_len, mlook_mapOf]
      simp only [Option.map_eq_none_iff, src_none, List.map_append, List.map_cons, List.map_nil, List.length_append, List.length_cons, List.length_nil]
      have hno : (List.map Lk.to l0 ++ [x.to]).Nodup ↔ (List.map Lk.to l0).Nodup ∧ x.to ∉ List.map Lk.to l0 := by
        rw [List.nodup_append]
        constructor
        · rintro ⟨a, _, c⟩
          exact ⟨a, fun h => c _ h _ (by simp) rfl⟩
        · rintro ⟨a, c⟩
          refine ⟨a, by simp, fun u hu v hv e => ?_⟩
          simp at hv
          subst hv
          subst e
          exact c hu
      rw [hno]
      by_cases hx : x.to ∈ List.map Lk.to l0
      · simp only [hx, not_true_eq_false, if_false, and_false]
        exact ⟨by omega, ⟨fun h => by omega, fun h => h.elim⟩⟩
      · simp only [hx, not_false_eq_true, if_true, and_true]
        exact ⟨by omega, ⟨fun h => i2.1 (by omega), fun h => by have := i2.2 h; omega⟩⟩
  exact h _ ls rfl

theorem nodup_tgt : ∀ {ls : List Lk}, (ls.map Lk.to).Nodup → ∀ a ∈ ls, ∀ b ∈ ls, a.to = b.to → a = b
  | [], _, a, ha, _, _, _ => by cases ha
  | x :: ls, h, a, ha, b, hb, e => by
    have ⟨h1, h2⟩ := List.nodup_cons.1 h
    rcases List.mem_cons.1 ha with rfl | ha
    · rcases List.mem_cons.1 hb with rfl | hb
      · rfl
      · exact absurd (List.mem_map.2 ⟨b, hb, e.symm⟩) h1
    · rcases List.mem_cons.1 hb with hb | hb
      · subst hb; exact absurd (List.mem_map.2 ⟨a, by assumption, e⟩) h1
      · exact nodup_tgt h2 a ha b hb e

theorem src_of_mem {ls : List Lk} (h : (ls.map Lk.to).Nodup) {k : Lk} (hk : k ∈ ls) : src ls k.to = some k := by
  cases hs : src ls k.to with
  | none => exact absurd (List.mem_map.2 ⟨k, hk, rfl⟩) (src_none.1 hs)
  | some x =>
    have ⟨h1, h2⟩ := src_mem hs
    rw [nodup_tgt h x h1 k hk h2]

theorem rdy_spec {ls : List Lk} {os : List Int} {p : Int} (h : rdy ls os p = true) : p ∉ os ∧ ∀ k, src ls p = some k → k.fr ∈ os := by
  unfold rdy at h
  simp only [Bool.and_eq_true, Bool.not_eq_true', decide_eq_false_iff_not] at h
  refine ⟨h.1, fun k hk => ?_⟩
  have := h.2
  rw [hk] at this
  simpa using this

theorem next_rdy {ls : List Lk} {os : List Int} {n p : Nat} (h : nextF ls os n = some p) : rdy ls os p = true := by
  unfold nextF at h
  exact List.find?_some (p := fun p : Nat => rdy ls os p) h

theorem ordK_rdy (ls : List Lk) (n : Nat) : ∀ (k : Nat) (os : List Int), ordK ls n k = some os → os.Nodup ∧ ∀ i, i < k → rdy ls (os.take i) (os.getD i 0) = true
  | 0, os, h => by
    simp [ordK] at h
    subst h
    simp
  | k + 1, os, h => by
    simp only [ordK] at h
    cases h1 : ordK ls n k with
    | none => rw [h1] at h; cases h
    | some os0 =>
      rw [h1] at h
      cases h2 : nextF ls os0 n with
      | none => simp [h2] at h
      | some p =>
        simp [h2] at h
        subst h
        have ⟨e1, e2⟩ := ordK_rdy ls n k os0 h1
        have hl := (ordK_mem ls n k os0 h1).1
        have hr := next_rdy h2
        refine ⟨?_, fun i hi => ?_⟩
        · rw [List.nodup_append]
          refine ⟨e1, by simp, fun u hu v hv e => ?_⟩
          simp at hv
          subst hv
          subst e
          exact (next_not_mem h2).1 hu
        · rcases Nat.lt_or_ge i k with hik | hik
          · have := e2 i hik
            rw [List.take_append_of_le_length (by omega)]
            have e : (os0 ++ [(p : Int)]).getD i 0 = os0.getD i 0 := by simp [List.getD, List.getElem?_append_left (show i < os0.length by omega)]
            rw [e]
            exact this
          · obtain rfl : i = k := by omega
            have e : (os0 ++ [(p : Int)]).getD i 0 = p := by simp [List.getD, List.getElem?_append_right (show os0.length ≤ i by omega), hl]
            rw [e, ← hl]
            simpa using hr

/-- Where a parameter stands in the list, from 1; 0 if not at all. -/
def pos1 (os : List Int) (p : Int) : Int := if p ∈ os then (os.idxOf p : Int) + 1 else 0

def atL (os : List Int) (n : Nat) : List Int := (List.range n).map fun (p : Nat) => pos1 os p

theorem atL_length (os : List Int) (n : Nat) : (atL os n).length = n := by simp [atL]

theorem atL_getD (os : List Int) (n p : Nat) (h : p < n) : (atL os n).getD p 0 = pos1 os p := by simp [atL, List.getD, h]

theorem pos1_snoc (os : List Int) (q p : Int) (h : q ∉ os) : pos1 (os ++ [q]) p = if p = q then (os.length : Int) + 1 else pos1 os p := by
  unfold pos1
  by_cases e : p = q
  · subst e
    simp [List.idxOf_append, h]
  · simp only [if_neg e, List.mem_append, List.mem_singleton, e, or_false, if_false]
    split
    · rename_i hp
      rw [List.idxOf_append, if_pos hp]
    · rfl

theorem atL_snoc (os : List Int) (n q : Nat) (h : (q : Int) ∉ os) : atL (os ++ [(q : Int)]) n = (atL os n).set q ((os.length : Int) + 1) := by
  apply List.ext_getElem
  · simp [atL]
  · intro i h1 h2
    simp only [atL, List.getElem_map, List.getElem_range, List.getElem_set]
    rw [pos1_snoc _ _ _ h]
    by_cases e : q = i
    · subst e; simp
    · rw [if_neg (by omega), if_neg e]

theorem atL_nil (n : Nat) : atL [] n = List.replicate n 0 := by
  apply List.ext_getElem
  · simp [atL]
  · intro i h1 h2
    simp [atL, pos1]

theorem idx_take {os : List Int} {i : Nat} {p : Int} (h : p ∈ os.take i) : os.idxOf p < i := by
  have h2 : (os.take i).idxOf p < (os.take i).length := List.idxOf_lt_length_iff.2 h
  have e : os.idxOf p = (os.take i).idxOf p := by
    conv => lhs; rw [← List.take_append_drop i os]
    rw [List.idxOf_append, if_pos h]
  rw [e]
  have := List.length_take_le i os
  omega

/-- What the order keeps. -/
theorem ord_before {ls : List Lk} {n : Nat} {os : List Int} (h : ordK ls n n = some os) (hnd : (ls.map Lk.to).Nodup) :
    os.Nodup ∧ os.length = n ∧ (∀ p ∈ os, ∃ q : Nat, q < n ∧ p = q) ∧ (∀ q : Nat, q < n → (q : Int) ∈ os) ∧ ∀ k ∈ ls, 0 ≤ k.to → k.to < n → pos1 os k.fr < pos1 os k.to := by
  have ⟨h1, h2⟩ := ordK_mem ls n n os h
  have ⟨h3, h4⟩ := ordK_rdy ls n n os h
  have hall : ∀ q : Nat, q < n → (q : Int) ∈ os := by
    intro q hq
    rcases Classical.em ((q : Int) ∈ os) with hm | hm
    · exact hm
    · exfalso
      have := nodup_len ((q : Int) :: os) ((List.range n).map fun (i : Nat) => (i : Int)) (List.nodup_cons.2 ⟨hm, h3⟩) (by
        intro x hx
        rcases List.mem_cons.1 hx with rfl | hx
        · exact List.mem_map.2 ⟨q, by simpa using hq, rfl⟩
        · obtain ⟨r, hr, rfl⟩ := h2 x hx
          exact List.mem_map.2 ⟨r, by simpa using hr, rfl⟩)
      simp at this
      omega
  refine ⟨h3, h1, h2, hall, fun k hk ht0 htn => ?_⟩
  have hto : k.to ∈ os := by
    have := hall k.to.toNat (by omega)
    rwa [Int.toNat_of_nonneg ht0] at this
  have hi : os.idxOf k.to < n := by rw [← h1]; exact List.idxOf_lt_length_iff.2 hto
  have hr := (rdy_spec (h4 _ hi)).2
  have eg : os.getD (os.idxOf k.to) 0 = k.to := by
    simp [List.getD, List.getElem?_eq_getElem (show os.idxOf k.to < os.length by omega)]
  rw [eg] at hr
  have hf := hr k (src_of_mem hnd hk)
  have hlt := idx_take hf
  unfold pos1
  rw [if_pos (List.mem_of_mem_take hf), if_pos hto]
  omega
end Go.Proofs.Ytnihkdmdbmnniaa
