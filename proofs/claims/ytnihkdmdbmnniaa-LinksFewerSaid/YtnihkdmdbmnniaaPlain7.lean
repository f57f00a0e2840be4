/- Plain facts: without one link only what follows its target changes. -/
import Derived.Test.YtnihkdmdbmnniaaPlain5
import Derived.Test.YtnihkdmdbmnniaaPlain6
set_option linter.unusedSimpArgs false
namespace Go.Proofs.Ytnihkdmdbmnniaa

/-- The links without the one at i. -/
def less (ls : List Lk) (i : Nat) : List Lk := ls.take i ++ ls.drop (i + 1)

theorem less_sub (ls : List Lk) (i : Nat) : (less ls i).Sublist ls := by
  have h : (ls.take i ++ ls.drop i) = ls := List.take_append_drop i ls
  conv => rhs; rw [← h]
  refine List.Sublist.append (List.Sublist.refl _) ?_
  have : ls.drop (i + 1) = (ls.drop i).drop 1 := by rw [List.drop_drop]
  rw [this]
  exact List.drop_sublist 1 _

theorem less_mem {ls : List Lk} {i : Nat} {k : Lk} (h : k ∈ less ls i) : k ∈ ls := (less_sub ls i).mem h

theorem mem_less {ls : List Lk} {i : Nat} (hi : i < ls.length) {k : Lk} (h : k ∈ ls) : k = ls.getD i Lk.z ∨ k ∈ less ls i := by
  obtain ⟨j, hj, rfl⟩ := List.getElem_of_mem h
  unfold less
  rcases Nat.lt_trichotomy j i with h1 | h1 | h1
  · right
    refine List.mem_append.2 (.inl ?_)
    exact List.mem_take_iff_getElem.2 ⟨j, by omega, rfl⟩
  · left
    subst h1
    simp [List.getD, hj]
  · right
    refine List.mem_append.2 (.inr ?_)
    exact List.mem_drop_iff_getElem.2 ⟨j - (i + 1), by omega, by congr 1; omega⟩

theorem less_length {ls : List Lk} {i : Nat} (hi : i < ls.length) : (less ls i).length + 1 = ls.length := by
  simp [less]; omega

theorem src_sub {ls ms : List Lk} (hs : ∀ k ∈ ms, k ∈ ls) (hnd : (ls.map Lk.to).Nodup) {p : Int} {k : Lk} (h : src ms p = some k) : src ls p = some k := by
  have ⟨h1, h2⟩ := src_mem h
  rw [← h2]
  exact src_of_mem hnd (hs k h1)

theorem chain_sub {ls ms : List Lk} (hs : ∀ k ∈ ms, k ∈ ls) (hnd : (ls.map Lk.to).Nodup) (p : Int) : ∀ (s : Nat) (q : Int), chain ms p s = some q → chain ls p s = some q
  | 0, q, h => h
  | s + 1, q, h => by
    simp only [chain] at h ⊢
    cases h1 : chain ms p s with
    | none => rw [h1] at h; cases h
    | some r =>
      rw [h1] at h
      rw [chain_sub hs hnd p s r h1]
      dsimp only at h ⊢
      cases h2 : src ms r with
      | none => rw [h2] at h; cases h
      | some x => rw [src_sub hs hnd h2]; rw [h2] at h; exact h

theorem ordR_less {n : Nat} {ls : List Lk} (i : Nat) (h : (ordR n ls).2 = 0) : (ordR n (less ls i)).2 = 0 := by
  obtain ⟨o1, o2, o3, o4, o5⟩ := ordR_ok h
  have ⟨b1, b2⟩ := badL_spec o4
  have hnd := (mapOf_len ls).2.1 b1
  have hsub := less_sub ls i
  have hms : ∀ k ∈ less ls i, k ∈ ls := fun k hk => hsub.mem hk
  have hnd2 : ((less ls i).map Lk.to).Nodup := List.Nodup.sublist (hsub.map _) hnd
  have hb : badL n (less ls i) = false := by
    unfold badL
    simp only [Bool.or_eq_false_iff, Bool.not_eq_false', decide_eq_true_eq, List.all_eq_true]
    exact ⟨(mapOf_len _).2.2 hnd2, fun k hk => b2 k (hms k hk)⟩
  rw [Int.toNat_natCast] at o5
  have hc : circ ls n = false := by
    cases hc : circ ls n with
    | false => rfl
    | true => rw [(circ_iff o4).1 hc] at o5; cases o5
  have hc2 : circ (less ls i) n = false := by
    refine circ_false fun p hp => ?_
    cases h1 : chain (less ls i) p (n + 1) with
    | none => rfl
    | some q => rw [circ_true hp (chain_sub hms hnd p _ q h1)] at hc; cases hc
  have hl := hsub.length_le
  unfold ordR
  rw [if_neg (by omega), if_neg (by omega), hb]
  simp only [Bool.false_eq_true, if_false, Int.toNat_natCast]
  cases h4 : ordK (less ls i) n n with
  | none => rw [(circ_iff hb).2 h4] at hc2; cases hc2
  | some os => rfl

/-! What follows a parameter. -/
def fstep (F : List Bool) (k : Lk) : List Bool := if F.getD k.fr.toNat false = true then F.set k.to.toNat true else F
def fpass (ms : List Lk) (F : List Bool) : List Bool := ms.foldl fstep F
def fiter (ms : List Lk) (F : List Bool) : Nat → List Bool
  | 0 => F
  | j + 1 => fpass ms (fiter ms F j)

theorem fstep_length (F : List Bool) (k : Lk) : (fstep F k).length = F.length := by unfold fstep; split <;> simp
theorem ffold_length : ∀ (l : List Lk) (F : List Bool), (l.foldl fstep F).length = F.length
  | [], _ => rfl
  | k :: l, F => by rw [List.foldl_cons, ffold_length l, fstep_length]
theorem fiter_length (ms : List Lk) (F : List Bool) : ∀ j, (fiter ms F j).length = F.length
  | 0 => rfl
  | j + 1 => by show (ms.foldl fstep _).length = _; rw [ffold_length, fiter_length ms F j]

theorem getDB_set (x : List Bool) (i j : Nat) (v : Bool) (h : i < x.length) : (x.set i v).getD j false = if i = j then v else x.getD j false := by
  simp only [List.getD, List.getElem?_set]
  split
  · simp [h]
  · rfl

theorem fstep_mono (F : List Bool) (k : Lk) (j : Nat) (h : F.getD j false = true) : (fstep F k).getD j false = true := by
  unfold fstep
  split
  · rcases Nat.lt_or_ge k.to.toNat F.length with hl | hl
    · rw [getDB_set _ _ _ _ hl]; split <;> simp_all
    · rw [List.set_eq_of_length_le hl]; exact h
  · exact h

theorem ffold_mono : ∀ (l : List Lk) (F : List Bool) (j : Nat), F.getD j false = true → (l.foldl fstep F).getD j false = true
  | [], _, _, h => h
  | k :: l, F, j, h => by rw [List.foldl_cons]; exact ffold_mono l _ j (fstep_mono F k j h)

theorem fiter_mono (ms : List Lk) (F : List Bool) (j : Nat) (h : F.getD j false = true) : ∀ i, (fiter ms F i).getD j false = true
  | 0 => h
  | i + 1 => ffold_mono ms _ j (fiter_mono ms F j h i)

/-- How many targets are marked. -/
def cnt (ms : List Lk) (F : List Bool) : Nat := ms.countP fun k => F.getD k.to.toNat false

theorem cnt_le (ms : List Lk) (F : List Bool) : cnt ms F ≤ ms.length := List.countP_le_length

theorem cnt_mono (ms : List Lk) {F G : List Bool} (h : ∀ j, F.getD j false = true → G.getD j false = true) : cnt ms F ≤ cnt ms G :=
  List.countP_mono_left fun _ _ hk => h _ hk

theorem countP_lt {p q : Lk → Bool} : ∀ (l : List Lk) (k : Lk), k ∈ l → (∀ x, p x = true → q x = true) → p k = false → q k = true → l.countP p < l.countP q
  | [], _, hk, _, _, _ => by cases hk
  | x :: l, k, hk, h, h1, h2 => by
    rw [List.countP_cons, List.countP_cons]
    have hle : l.countP p ≤ l.countP q := List.countP_mono_left fun y _ hy => h y hy
    rcases List.mem_cons.1 hk with rfl | hk
    · rw [h1, h2]; simp; omega
    · have := countP_lt l k hk h h1 h2
      cases hp : p x with
      | false => simp; omega
      | true => rw [h x hp]; simp; omega

theorem fstep_cnt {ms : List Lk} {k : Lk} (hk : k ∈ ms) {F : List Bool} (hl : k.to.toNat < F.length) : fstep F k = F ∨ cnt ms F < cnt ms (fstep F k) := by
  by_cases h1 : F.getD k.fr.toNat false = true
  · cases h2 : F.getD k.to.toNat false with
    | true =>
      left
      unfold fstep
      rw [if_pos h1]
      refine List.ext_getElem (by simp) fun i hi1 hi2 => ?_
      rw [List.getElem_set]
      split
      · rename_i e
        subst e
        simp [List.getD, hl] at h2
        exact h2.symm
      · rfl
    | false =>
      right
      refine countP_lt ms k hk (fun x hx => fstep_mono F k _ hx) h2 ?_
      unfold fstep
      rw [if_pos h1, getDB_set _ _ _ _ hl, if_pos rfl]
  · left
    unfold fstep
    rw [if_neg h1]

theorem ffold_cnt {ms : List Lk} : ∀ (l : List Lk) (F : List Bool), (∀ k ∈ l, k ∈ ms ∧ k.to.toNat < F.length) → (l.foldl fstep F = F ∧ ∀ k ∈ l, fstep F k = F) ∨ cnt ms F < cnt ms (l.foldl fstep F)
  | [], F, _ => .inl ⟨rfl, fun _ hk => by cases hk⟩
  | k :: l, F, h => by
    have hk := h k (by simp)
    rw [List.foldl_cons]
    have ih := ffold_cnt (ms := ms) l (fstep F k) (fun x hx => by rw [fstep_length]; exact h x (by simp [hx]))
    rcases fstep_cnt hk.1 hk.2 with e | e
    · rw [e] at ih ⊢
      rcases ih with ⟨i1, i2⟩ | i
      · left
        refine ⟨i1, fun x hx => ?_⟩
        rcases List.mem_cons.1 hx with rfl | hx
        · exact e
        · exact i2 x hx
      · exact .inr i
    · right
      have : cnt ms (fstep F k) ≤ cnt ms (l.foldl fstep (fstep F k)) := cnt_mono ms fun j hj => ffold_mono l _ j hj
      omega

theorem fiter_fix {ms : List Lk} {F : List Bool} (h : ∀ k ∈ ms, k.to.toNat < F.length) : ∀ j, (∀ k ∈ ms, fstep (fiter ms F j) k = fiter ms F j) ∨ j ≤ cnt ms (fiter ms F j)
  | 0 => .inr (Nat.zero_le _)
  | j + 1 => by
    have hf := ffold_cnt (ms := ms) ms (fiter ms F j) (fun k hk => ⟨hk, by rw [fiter_length]; exact h k hk⟩)
    have e : fiter ms F (j + 1) = ms.foldl fstep (fiter ms F j) := rfl
    rcases hf with ⟨h1, h2⟩ | h1
    · left
      rw [e, h1]
      exact h2
    · rcases fiter_fix h j with h3 | h3
      · left
        have : ms.foldl fstep (fiter ms F j) = fiter ms F j := by
          clear h1 e
          generalize fiter ms F j = G at *
          clear h
          induction ms with
          | nil => rfl
          | cons x l ih => rw [List.foldl_cons, h3 x (by simp)]; exact ih (fun k hk => h3 k (by simp [hk]))
        rw [e, this]
        exact h3
      · right
        rw [e]
        omega

/-- What is marked after as many passes as there were links: closed. -/
theorem fiter_closed {ls : List Lk} {i : Nat} (hi : i < ls.length) {F : List Bool} (h : ∀ k ∈ less ls i, k.to.toNat < F.length) (k : Lk) (hk : k ∈ less ls i) (hf : (fiter (less ls i) F ls.length).getD k.fr.toNat false = true) :
    (fiter (less ls i) F ls.length).getD k.to.toNat false = true := by
  have hl := less_length hi
  rcases fiter_fix h ls.length with h1 | h1
  · have e := h1 k hk
    have hkl := h k hk
    rw [← fiter_length (less ls i) F ls.length] at hkl
    generalize fiter (less ls i) F ls.length = G at *
    unfold fstep at e
    rw [if_pos hf] at e
    rw [← e, getDB_set _ _ _ _ hkl, if_pos rfl]
  · have := cnt_le (less ls i) (fiter (less ls i) F ls.length)
    omega

/-- The marks at the beginning. -/
def mark0 (ls : List Lk) (i n : Nat) : List Bool := (List.replicate n false).set (ls.getD i Lk.z).to.toNat true

theorem fewer_same {ls : List Lk} {i n : Nat} {vs : List Int} (hi : i < ls.length) (hn : vs.length = n) (h : (ordR n ls).2 = 0) (p : Nat) (hp : p < n)
    (hf : (fiter (less ls i) (mark0 ls i n) ls.length).getD p false = false) : (valR ls vs).1.getD p 0 = (valR (less ls i) vs).1.getD p 0 := by
  have h' := ordR_less i h
  obtain ⟨o1, o2, o3, o4, o5⟩ := ordR_ok h
  obtain ⟨_, _, _, o4', o5'⟩ := ordR_ok h'
  have ⟨b1, b2⟩ := badL_spec o4
  have hnd := (mapOf_len ls).2.1 b1
  have hnd2 : ((less ls i).map Lk.to).Nodup := List.Nodup.sublist ((less_sub ls i).map _) hnd
  rw [Int.toNat_natCast] at o5 o5'
  have e1 : (valR ls vs).1 = valL ls vs (ordR n ls).1 := by unfold valR; rw [hn, if_pos h]
  have e2 : (valR (less ls i) vs).1 = valL (less ls i) vs (ordR n (less ls i)).1 := by unfold valR; rw [hn, if_pos h']
  have hx0 : ls.getD i Lk.z ∈ ls := by simp [List.getD, hi]
  have ok0 := okL_spec (b2 _ hx0)
  have hlen : (mark0 ls i n).length = n := by simp [mark0]
  have hcl := fiter_closed hi (F := mark0 ls i n) (fun k hk => by rw [hlen]; have := okL_spec (b2 k (less_mem hk)); omega)
  have hm0 : (fiter (less ls i) (mark0 ls i n) ls.length).getD (ls.getD i Lk.z).to.toNat false = true := by
    refine fiter_mono _ _ _ ?_ _
    unfold mark0
    rw [getDB_set _ _ _ _ (by rw [List.length_replicate]; omega), if_pos rfl]
  have ⟨_, _, _, p4, p5⟩ := ord_before o5 hnd
  rw [e1, e2]
  have key : ∀ (N : Nat) (p : Nat), p < n → pos1 (ordR n ls).1 p ≤ N → (fiter (less ls i) (mark0 ls i n) ls.length).getD p false = false → (valL ls vs (ordR n ls).1).getD p 0 = (valL (less ls i) vs (ordR n (less ls i)).1).getD p 0 := by
    intro N
    induction N with
    | zero =>
      intro p hp hle _
      exfalso
      have := p4 p hp
      unfold pos1 at hle
      rw [if_pos this] at hle
      omega
    | succ N ih =>
      intro p hp hle hf
      rw [val_fix vs hn o5 p hp, val_fix vs hn o5' p hp]
      unfold want
      cases hs : src ls p with
      | none =>
        have : src (less ls i) p = none := by
          cases hs2 : src (less ls i) p with
          | none => rfl
          | some k => rw [src_sub (fun k hk => less_mem hk) hnd hs2] at hs; cases hs
        rw [this]
      | some k =>
        have ⟨m1, m2⟩ := src_mem hs
        have ok := okL_spec (b2 k m1)
        have hkm : k ∈ less ls i := by
          rcases mem_less hi m1 with e | e
          · exfalso
            rw [← e, m2, Int.toNat_natCast, hf] at hm0
            cases hm0
          · exact e
        have hs2 : src (less ls i) p = some k := by rw [← m2]; exact src_of_mem hnd2 hkm
        rw [hs2]
        dsimp only
        have hlt := p5 k m1 ok.2.1.1 (by omega)
        rw [m2] at hlt
        have hff : (fiter (less ls i) (mark0 ls i n) ls.length).getD k.fr.toNat false = false := by
          cases hc : (fiter (less ls i) (mark0 ls i n) ls.length).getD k.fr.toNat false with
          | false => rfl
          | true =>
            have := hcl k hkm hc
            rw [m2, Int.toNat_natCast, hf] at this
            cases this
        rw [ih k.fr.toNat (by omega) (by rw [Int.toNat_of_nonneg ok.1.1]; omega) hff]
  exact key (pos1 (ordR n ls).1 p).toNat p hp (by omega) hf
end Go.Proofs.Ytnihkdmdbmnniaa
