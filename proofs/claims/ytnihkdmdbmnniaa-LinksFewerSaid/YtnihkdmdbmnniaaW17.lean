/- Links appended to an empty row: only new memory is made. Parts of a slice of links. -/
import Derived.Test.YtnihkdmdbmnniaaW16
set_option linter.unusedSimpArgs false
namespace Go.Proofs.Ytnihkdmdbmnniaa
open Go.RowKit

theorem grew_of_grownBy {w w' : World} {g : Nat} (h : w.grownBy w' (some g)) (hg : w'.heap[g]? = w.heap[g]?) : Grew w w' := by
  have h2 : w.grownBy w' none := ⟨h.os, h.tape, h.output, h.size, fun k hk _ => by
    by_cases e : k = g
    · subst e; exact hg
    · exact h.block k hk (fun e2 => e (by injection e2))⟩
  exact Below.grown (Below.refl _ _) h2 (Nat.le_refl _) (fun k e => by cases e)

/-- Links appended to an empty row without room. -/
theorem wpList_append_fresh {P : Program} (w : World) {ops : Array Oper} {rest : List Oper} {o : Oper} {a : Act} {Q : Exit → Act → World → Prop} (hgd : o.guard = none) (s x : Operand) (t : TypeId)
    (ho : o.op = .call { callee := .builtin .append, args := #[s, x], argTypes := #[t, t] })
    (base : Nat) (e : TypeId) (i : TypeInfo) (ht : P.underlying t = some (.slice e)) (hi : P.info? e = some i) (hz : i.zero = some Lk.z.v) (h1 : i.size = 5) (h8 : i.bytes = 40)
    (g : Nat) (hs : a.eval s = .slice (some ⟨g, 0, none⟩) 0 0) (hg : w.heap[g]? = some (.cells #[] e (0, 0))) (hgb : base ≤ g) (ad : Addr) (m c : Nat) (ys : List Lk) (hx : a.eval x = .slice (some ad) m c) (hsl : SlL w (some ad) m ys)
    (hsz : m ≤ 65536) (hb : base ≤ w.heap.size)
    (h : ∀ v' w', w'.ownsRow base e 5 v' m (lkv ys) → Grew w w' → wpList P ops Q rest (a.put o.dst v') w') : wpList P ops Q (o :: rest) a w := by
  have hown : w.ownsRow base e 5 (.slice (some ⟨g, 0, none⟩) 0 0) 0 [] := ⟨rfl, .inr ⟨g, 0, #[], rfl, hgb, hg, Nat.le_refl _, Nat.zero_le _, rfl, rfl⟩⟩
  have hrun : ∃ v' w', (Builtin.append_ #[t, t] o.type #[.slice (some ⟨g, 0, none⟩) 0 0, .slice (some ad) m c]).run P w = .ok v' w' ∧ w'.ownsRow base e 5 v' m (lkv ys) ∧ Grew w w' := by
    obtain ⟨v', w', hr, h2, h3, h4⟩ := run_append_own (P := P) w base t o.type e i Lk.z.v 5 40 ht hi hz h1 h8 rfl (by decide) _ 0 [] hown ad m c (lkv ys) (by rw [lkv_length, hsl.1]) hsl.news (lkv_one ys) (by unfold maxLen; omega) (by omega) hb
    refine ⟨v', w', hr, by simpa using h2, ?_⟩
    refine grew_of_grownBy h3 ?_
    by_cases hm : m = 0
    · subst hm
      have hy : ys = [] := List.eq_nil_of_length_eq_zero hsl.1
      subst hy
      have hr2 := run_append_room (P := P) w t o.type e i ht hi g 0 0 #[] hg ad 0 c [] (by simp) (by intro j u hu; simp at hu) (by intro u hu; cases hu) (Nat.le_refl _) (by simp)
      rw [hr2] at hr
      injection hr with _ hw
      subst hw
      rw [setRow_heap w g #[] _ e (0, 0) hg, hg]
      simp
    · have hr2 := run_append_grow (P := P) w t o.type e i Lk.z.v ht hi hz ⟨g, 0, none⟩ 0 0 [] (by simp) (by intro j u hu; simp at hu) ad m c (lkv ys) (by rw [lkv_length, hsl.1, h1]) hsl.news (by omega) (by omega) (growslice_fits (by omega) (by rw [h8]; omega))
      rw [hr2] at hr
      injection hr with _ hw
      subst hw
      exact Go.heap_alloc_old w.drew _ (Array.getElem?_eq_some_iff.1 hg).1
  obtain ⟨v', w', hr, h2, h3⟩ := hrun
  refine wpList_plain hgd fun _ hK => ?_
  unfold Oper.wp execOp
  simp only [ho, resolve, invoke, builtin, Sem.run_bind, Sem.run_pure, Result.andThen_ok, List.map_toArray, List.map_cons, List.map_nil, hs, hx, hr]
  exact hK _ _ (h v' w' h2 h3)

/-- Parts of a slice of links. -/
theorem SlL.part {w : World} {b off m : Nat} {ls : List Lk} (h : SlL w (some ⟨b, off, none⟩) m ls) (i n : Nat) (hin : i + n ≤ m) : SlL w (some ⟨b, off + i * 5, none⟩) n ((ls.drop i).take n) := by
  refine ⟨by simp [h.1]; omega, fun hn => ?_⟩
  obtain ⟨b', off', e, hb, hc⟩ := h.2 (by omega)
  injection e with e
  injection e with e1 e2 _
  subst e1 e2
  refine ⟨b, off + i * 5, rfl, hb, fun j hj => ?_⟩
  have := hc (i + j) (by omega)
  have e : ((ls.drop i).take n).getD j Lk.z = ls.getD (i + j) Lk.z := by
    simp [List.getD, List.getElem?_take, hj, List.getElem?_drop]
  rw [e]
  have e2 : off + i * 5 + j * 5 = off + (i + j) * 5 := by omega
  rw [e2]
  exact this
end Go.Proofs.Ytnihkdmdbmnniaa
