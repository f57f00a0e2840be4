/- Plain facts: the values obey the links. -/
import Derived.Test.YtnihkdmdbmnniaaPlain3
set_option linter.unusedSimpArgs false
namespace Go.Proofs.Ytnihkdmdbmnniaa

/-- The value that a parameter is to have, given the values x. -/
def want (ls : List Lk) (vs x : List Int) (p : Int) : Int :=
  match src ls p with | some k => linkV k (x.getD k.fr.toNat 0) | none => clip (vs.getD p.toNat 0)

theorem valStep_eq (ls : List Lk) (vs x : List Int) (p : Int) : valStep ls vs x p = x.set p.toNat (want ls vs x p) := rfl

theorem getD_set (x : List Int) (i j : Nat) (v : Int) (h : i < x.length) : (x.set i v).getD j 0 = if i = j then v else x.getD j 0 := by
  simp only [List.getD, List.getElem?_set]
  split
  · simp [h]
  · rfl

theorem want_congr (ls : List Lk) (vs x y : List Int) (p : Int) (h : ∀ k, src ls p = some k → x.getD k.fr.toNat 0 = y.getD k.fr.toNat 0) : want ls vs x p = want ls vs y p := by
  unfold want
  cases hs : src ls p with
  | none => rfl
  | some k => simp only [h k hs]

theorem val_pre {ls : List Lk} {n : Nat} {os : List Int} (vs : List Int) (hn : vs.length = n) (h1 : os.length = n) (h2 : ∀ p ∈ os, ∃ q : Nat, q < n ∧ p = q) (h3 : os.Nodup) (h4 : ∀ i, i < n → rdy ls (os.take i) (os.getD i 0) = true) :
    ∀ j, j ≤ n → ∀ p ∈ os.take j, ((os.take j).foldl (valStep ls vs) (List.replicate vs.length 0)).getD p.toNat 0 = want ls vs ((os.take j).foldl (valStep ls vs) (List.replicate vs.length 0)) p
  | 0, _, p, hp => by simp at hp
  | j + 1, hj, p, hp => by
    have ih := val_pre vs hn h1 h2 h3 h4 j (by omega)
    have hjo : j < os.length := by omega
    have hq : os.getD j 0 ∈ os := by simp [List.getD, hjo]
    obtain ⟨q, hq1, hq2⟩ := h2 _ hq
    have hr := rdy_spec (h4 j (by omega))
    have hx : (os.take (j + 1)).foldl (valStep ls vs) (List.replicate vs.length 0) = valStep ls vs ((os.take j).foldl (valStep ls vs) (List.replicate vs.length 0)) (os.getD j 0) := by
      rw [take_snoc os j hjo, List.foldl_append]; rfl
    have hlen : ((os.take j).foldl (valStep ls vs) (List.replicate vs.length 0)).length = n := by rw [foldl_valStep_length]; simp [hn]
    rw [hx, valStep_eq]
    rw [take_snoc os j hjo] at hp
    generalize (os.take j).foldl (valStep ls vs) (List.replicate vs.length 0) = x at *
    rw [hq2] at hr hp ⊢
    have key : ∀ r : Int, r ∈ os.take j → r.toNat ≠ q := by
      intro r hr' e
      obtain ⟨r', _, e2⟩ := h2 r (List.mem_of_mem_take hr')
      have : r = q := by omega
      exact hr.1 (this ▸ hr')
    rw [getD_set _ _ _ _ (by omega), Int.toNat_natCast]
    rcases List.mem_append.1 hp with hp | hp
    · rw [if_neg (fun e => key p hp e.symm), ih p hp]
      obtain ⟨i, hi, hpi⟩ := List.getElem_of_mem hp
      simp only [List.length_take] at hi
      have hpe : os.getD i 0 = p := by rw [List.getElem_take] at hpi; simp [List.getD, List.getElem?_eq_getElem (show i < os.length by omega), hpi]
      have hri := rdy_spec (h4 i (by omega))
      rw [hpe] at hri
      refine want_congr _ _ _ _ _ fun k hk => ?_
      rw [getD_set _ _ _ _ (by omega), if_neg]
      intro e
      refine key k.fr ?_ e.symm
      have := hri.2 k hk
      exact (List.take_subset_take_left os (by omega)) this
    · simp at hp
      subst hp
      rw [if_pos (by simp)]
      refine want_congr _ _ _ _ _ fun k hk => ?_
      rw [getD_set _ _ _ _ (by omega), if_neg]
      intro e
      exact key k.fr (hr.2 k hk) e.symm

/-- Each parameter has the value that it is to have. -/
theorem val_fix {ls : List Lk} {n : Nat} {os : List Int} (vs : List Int) (hn : vs.length = n) (h : ordK ls n n = some os) (p : Nat) (hp : p < n) :
    (valL ls vs os).getD p 0 = want ls vs (valL ls vs os) p := by
  have ⟨h1, h2⟩ := ordK_mem ls n n os h
  have ⟨h3, h4⟩ := ordK_rdy ls n n os h
  have := val_pre vs hn h1 h2 h3 h4 n (Nat.le_refl _) p (by
    rw [List.take_of_length_le (by omega)]
    rcases Classical.em ((p : Int) ∈ os) with hm | hm
    · exact hm
    · exfalso
      have := nodup_len ((p : Int) :: os) ((List.range n).map fun (i : Nat) => (i : Int)) (List.nodup_cons.2 ⟨hm, h3⟩) (by
        intro x hx
        rcases List.mem_cons.1 hx with rfl | hx
        · exact List.mem_map.2 ⟨p, by simpa using hp, rfl⟩
        · obtain ⟨r, hr, rfl⟩ := h2 x hx
          exact List.mem_map.2 ⟨r, by simpa using hr, rfl⟩)
      simp at this
      omega)
  rw [List.take_of_length_le (by omega)] at this
  exact this

/-- Which parameters are targets. -/
def tgtL (ls : List Lk) (n : Nat) : List Bool := (List.range n).map fun (p : Nat) => decide ((p : Int) ∈ ls.map Lk.to)

theorem tgtL_length (ls : List Lk) (n : Nat) : (tgtL ls n).length = n := by simp [tgtL]
theorem tgtL_nil (n : Nat) : tgtL [] n = List.replicate n false := by
  apply List.ext_getElem
  · simp [tgtL]
  · intro i h1 h2
    simp [tgtL]
theorem tgtL_snoc (ls : List Lk) (n q : Nat) (x : Lk) (h : x.to = q) : tgtL (ls ++ [x]) n = (tgtL ls n).set q true := by
  apply List.ext_getElem
  · simp [tgtL]
  · intro i h1 h2
    simp only [tgtL, List.getElem_map, List.getElem_range, List.getElem_set, List.map_append, List.map_cons, List.map_nil, List.mem_append, List.mem_singleton, h]
    by_cases e : q = i
    · subst e; simp
    · rw [if_neg e]
      have : ¬ (i : Int) = q := by omega
      simp [this]

theorem takeL_snoc (ls : List Lk) (k : Nat) (h : k < ls.length) : ls.take (k + 1) = ls.take k ++ [ls.getD k Lk.z] := by
  rw [List.take_add_one, List.getElem?_eq_getElem h]
  simp [List.getD, List.getElem?_eq_getElem h]

theorem set_mapB (x : List Bool) (i : Nat) (y : Bool) : ((x.map Value.bool).toArray.setIfInBounds i (.bool y)) = ((x.set i y).map Value.bool).toArray := by
  simp [List.map_set]

theorem cellOfB (x : List Bool) (i : Nat) (h : i < x.length) : ((x.map Value.bool).toArray)[i]? = some (.bool (x.getD i false)) := by
  simp [List.getD, h]

theorem tgtL_getD (ls : List Lk) (n p : Nat) (h : p < n) : (tgtL ls n).getD p false = decide ((p : Int) ∈ ls.map Lk.to) := by simp [tgtL, List.getD, h]
end Go.Proofs.Ytnihkdmdbmnniaa
