/- Plain facts: the order of links does not matter, nor the values of targets. -/
import Derived.Test.YtnihkdmdbmnniaaPlain4
set_option linter.unusedSimpArgs false
namespace Go.Proofs.Ytnihkdmdbmnniaa

theorem badL_perm {n : Int} {ls ms : List Lk} (h : ms.Perm ls) : badL n ms = badL n ls := by
  have e1 : ((mapOf ms).length = ms.length ↔ (mapOf ls).length = ls.length) := by
    rw [(mapOf_len ms).2, (mapOf_len ls).2]
    exact (h.map Lk.to).nodup_iff
  have e2 : ms.all (okL n) = ls.all (okL n) := by
    rw [Bool.eq_iff_iff, List.all_eq_true, List.all_eq_true]
    exact ⟨fun g x hx => g x (h.mem_iff.2 hx), fun g x hx => g x (h.mem_iff.1 hx)⟩
  unfold badL
  rw [e2]
  congr 2
  exact decide_eq_decide.2 e1

theorem src_perm {ls ms : List Lk} (h : ms.Perm ls) (hnd : (ls.map Lk.to).Nodup) (p : Int) : src ms p = src ls p := by
  have hnd2 : (ms.map Lk.to).Nodup := (h.map Lk.to).nodup_iff.2 hnd
  cases hs : src ls p with
  | none =>
    rw [src_none] at hs ⊢
    exact fun g => hs ((h.map Lk.to).mem_iff.1 g)
  | some k =>
    have ⟨h1, h2⟩ := src_mem hs
    rw [← h2]
    exact src_of_mem hnd2 (h.mem_iff.2 h1)

theorem rdy_src {ls ms : List Lk} {os : List Int} {p : Int} (h : src ms p = src ls p) : rdy ms os p = rdy ls os p := by
  unfold rdy
  rw [h]

theorem ordK_src {ls ms : List Lk} (h : ∀ p, src ms p = src ls p) (n : Nat) : ∀ k, ordK ms n k = ordK ls n k
  | 0 => rfl
  | k + 1 => by
    have e : ∀ os, nextF ms os n = nextF ls os n := fun os => by
      unfold nextF
      congr 1
      funext p
      exact rdy_src (h p)
    simp only [ordK, ordK_src h n k, e]

theorem ordR_perm {n : Int} {ls ms : List Lk} (h : ms.Perm ls) : ordR n ms = ordR n ls := by
  unfold ordR
  rw [h.length_eq, badL_perm h]
  cases hb : badL n ls with
  | true => rfl
  | false =>
    have hnd := (mapOf_len ls).2.1 (badL_spec hb).1
    rw [ordK_src (src_perm h hnd)]

/-- The values with other ones for the targets. -/
def chg (ls : List Lk) (vs : List Int) (oth : Int) : List Int := ls.foldl (fun (v : List Int) (x : Lk) => if 0 ≤ x.to ∧ x.to < (v.length : Int) then v.set x.to.toNat oth else v) vs

theorem chg_snoc (ls : List Lk) (x : Lk) (vs : List Int) (oth : Int) : chg (ls ++ [x]) vs oth = if 0 ≤ x.to ∧ x.to < (chg ls vs oth).length then (chg ls vs oth).set x.to.toNat oth else chg ls vs oth := by rw [chg, List.foldl_append]; rfl

theorem chg_length (vs : List Int) (oth : Int) : ∀ ls : List Lk, (chg ls vs oth).length = vs.length := by
  have h : ∀ (ls : List Lk) (v : List Int), (ls.foldl (fun v x => if 0 ≤ x.to ∧ x.to < (v.length : Int) then v.set x.to.toNat oth else v) v).length = v.length := by
    intro ls
    induction ls with
    | nil => intro v; rfl
    | cons x ls ih =>
      intro v
      rw [List.foldl_cons, ih]
      split <;> simp
  exact fun ls => h ls vs

theorem chg_getD (oth : Int) : ∀ (ls : List Lk) (vs : List Int) (p : Nat), (p : Int) ∉ ls.map Lk.to → (chg ls vs oth).getD p 0 = vs.getD p 0
  | [], vs, p, _ => rfl
  | x :: ls, vs, p, h => by
    simp only [List.map_cons, List.mem_cons, not_or] at h
    have ih := chg_getD oth ls (if 0 ≤ x.to ∧ x.to < vs.length then vs.set x.to.toNat oth else vs) p h.2
    show (chg ls (if 0 ≤ x.to ∧ x.to < vs.length then vs.set x.to.toNat oth else vs) oth).getD p 0 = _
    rw [ih]
    split
    · rw [getD_set _ _ _ _ (by omega), if_neg (by omega)]
    · rfl

theorem valStep_congr {ls ms : List Lk} {vs vs2 : List Int} {x : List Int} {p : Int} (h : src ms p = src ls p) (hv : src ls p = none → vs2.getD p.toNat 0 = vs.getD p.toNat 0) : valStep ms vs2 x p = valStep ls vs x p := by
  unfold valStep
  rw [h]
  cases hs : src ls p with
  | none => dsimp only; rw [hv hs]
  | some k => rfl

theorem fold_congr {ls ms : List Lk} {vs vs2 : List Int} : ∀ (os x : List Int), (∀ p ∈ os, src ms p = src ls p ∧ (src ls p = none → vs2.getD p.toNat 0 = vs.getD p.toNat 0)) → os.foldl (valStep ms vs2) x = os.foldl (valStep ls vs) x
  | [], x, _ => rfl
  | p :: os, x, h => by
    have h1 := h p (by simp)
    rw [List.foldl_cons, List.foldl_cons, valStep_congr h1.1 h1.2]
    exact fold_congr os _ (fun q hq => h q (by simp [hq]))

theorem valR_perm {ls ms : List Lk} (h : ms.Perm ls) (vs : List Int) (oth : Int) : valR ms (chg ls vs oth) = valR ls vs := by
  unfold valR
  rw [chg_length, ordR_perm h]
  split
  · rename_i hok
    obtain ⟨o1, o2, o3, o4, o5⟩ := ordR_ok hok
    have hnd := (mapOf_len ls).2.1 (badL_spec o4).1
    have hm := (ordK_mem ls _ _ _ o5).2
    have e : valL ms (chg ls vs oth) (ordR vs.length ls).1 = valL ls vs (ordR vs.length ls).1 := by
      unfold valL
      rw [chg_length]
      refine fold_congr _ _ fun p hp => ⟨src_perm h hnd p, fun hs => ?_⟩
      obtain ⟨q, _, rfl⟩ := hm p hp
      rw [Int.toNat_natCast]
      exact chg_getD oth ls vs q (src_none.1 hs)
    rw [e]
  · rfl

theorem swap_perm (ms : List Lk) (a b : Nat) (ha : a < ms.length) (hb : b < ms.length) : ((ms.set a (ms.getD b Lk.z)).set b (ms.getD a Lk.z)).Perm ms := by
  have := List.set_set_perm ha hb
  simp only [List.getD, List.getElem?_eq_getElem ha, List.getElem?_eq_getElem hb, Option.getD_some]
  exact this
end Go.Proofs.Ytnihkdmdbmnniaa
