/- Maps with integer keys: what their operations do. -/
import Derived.Test.YtnihkdmdbmnniaaBase
namespace Go.Proofs.Ytnihkdmdbmnniaa
open Go.RowKit

/-- The block r is a map with these entries, in the order in which they came. -/
def IMap (w : World) (r : Nat) (m : List (Int × Value)) : Prop :=
  ∃ es clock, w.heap[r]? = some (.map es clock) ∧ es.toList.map (fun e => (e.key, e.val)) = m.map (fun p => (Value.int .i64 p.1, p.2))

def mlook : List (Int × Value) → Int → Option Value
  | [], _ => none
  | (k', v) :: m, k => if k = k' then some v else mlook m k

def mput : List (Int × Value) → Int → Value → List (Int × Value)
  | [], k, v => [(k, v)]
  | (k', v') :: m, k, v => if k = k' then (k, v) :: m else (k', v') :: mput m k v

theorem findNow_eq (k : Int) : ∀ (es : List MapEntry) (m : List (Int × Value)) (i : Nat), es.map (fun e => (e.key, e.val)) = m.map (fun p => (Value.int .i64 p.1, p.2)) →
    (mlook m k = none ∧ Instr.findNow (.int .i64) (.int .i64 k) es i = some none ∧ ∀ u, mput m k u = m ++ [(k, u)]) ∨
    ∃ j v, mlook m k = some v ∧ Instr.findNow (.int .i64) (.int .i64 k) es i = some (some (i + j, v)) ∧ (∀ u, (es.modify j fun e => { e with key := .int .i64 k, val := u }).map (fun e => (e.key, e.val)) = (mput m k u).map (fun p => (Value.int .i64 p.1, p.2))) ∧ ((es[j]?).map (·.key)) = some (.int .i64 k)
  | [], [], i, _ => .inl ⟨rfl, rfl, fun _ => rfl⟩
  | [], _ :: _, _, h => by simp at h
  | _ :: _, [], _, h => by simp at h
  | e :: es, (k', v') :: m, i, h => by
    simp only [List.map_cons, List.cons.injEq, Prod.mk.injEq] at h
    obtain ⟨⟨hk, hv⟩, ht⟩ := h
    simp only [Instr.findNow, hk, Instr.sameNow, mlook, mput]
    by_cases hkk : k = k'
    · subst hkk
      right
      refine ⟨0, v', by simp, by simp [hv], fun u => ?_, by simp [hk]⟩
      simp [ht]
    · have hb : (k == k') = false := by simp [hkk]
      rcases findNow_eq k es m (i + 1) ht with ⟨h1, h2, h3⟩ | ⟨j, v, h1, h2, h4, h5⟩
      · left
        simp [hkk, h1, h2, h3, hb]
      · right
        refine ⟨j + 1, v, by simp [hkk, h1], ?_, fun u => ?_, by simpa using h5⟩
        · simp only [hb, h2, if_true]; congr 3; omega
        · simp [hkk, h4, hk, hv]

theorem imap_size {w : World} {r : Nat} {m : List (Int × Value)} (h : IMap w r m) : r < w.heap.size := by
  obtain ⟨es, c, h, _⟩ := h
  exact (Array.getElem?_eq_some_iff.1 h).1

theorem run_check {P : Program} (K : TypeId) (hK : P.underlying K = some (.int .i64)) (e : Bool) (k : Int) (n : Nat) (w : World) : (Instr.checkKey e (n + 1) K (.int .i64 k)).run P w = .ok () w := by
  have hu2 : (underlying K).run P w = .ok (.int .i64) w := run_underlying hK w
  simp [Instr.checkKey, Sem.run_bind, hu2]

theorem run_find {P : Program} (K : TypeId) (hK : P.underlying K = some (.int .i64)) (k : Int) (es : List MapEntry) (r : Option (Nat × Value)) (h : Instr.findNow (.int .i64) (.int .i64 k) es 0 = some r) (w : World) : (Instr.findKey K (.int .i64 k) es).run P w = .ok r w := by
  have hu2 : (underlying K).run P w = .ok (.int .i64) w := run_underlying hK w
  simp [Instr.findKey, Sem.run_bind, hu2, h]

theorem run_look {P : Program} {w : World} {r : Nat} {m : List (Int × Value)} (h : IMap w r m) (T K E : TypeId) (hT : P.underlying T = some (.map K E)) (hK : P.underlying K = some (.int .i64)) (z : Value)
    (hz : ∀ w : World, (zeroValue E).run P w = .ok z w) (k : Int) (ok : Bool) :
    (Instr.lookup T (.map (some r)) (.int .i64 k) ok).run P w = .ok (if ok then .tuple #[(mlook m k).getD z, .bool (mlook m k).isSome] else (mlook m k).getD z) w := by
  obtain ⟨es, c, hr, he⟩ := h
  have hu : (underlying T).run P w = .ok (.map K E) w := run_underlying hT w
  have hg : (getObj r).run P w = .ok (.map es c) w := by simp [getObj, Sem.run, hr]
  unfold Instr.lookup
  rcases findNow_eq k es.toList m 0 he with ⟨h1, h2, _⟩ | ⟨j, v, h1, h2, _, _⟩
  · have hf := run_find K hK k es.toList _ h2 w
    simp only [Sem.run_bind, hu, hg, Result.andThen_ok, Sem.run_pure, run_check K hK, hf, hz, h1]
    cases ok <;> rfl
  · have hf := run_find K hK k es.toList _ h2 w
    simp only [Sem.run_bind, hu, hg, Result.andThen_ok, Sem.run_pure, run_check K hK, hf, h1]
    cases ok <;> rfl

/-- A store into a map. -/
theorem run_put {P : Program} {w : World} {r : Nat} {m : List (Int × Value)} (h : IMap w r m) (T K E : TypeId) (hT : P.underlying T = some (.map K E)) (hK : P.underlying K = some (.int .i64)) (k : Int) (v : Value) :
    ∃ w', (Instr.mapUpdate T (.map (some r)) (.int .i64 k) v).run P w = .ok () w' ∧ IMap w' r (mput m k v) ∧ w.grownBy w' (some r) ∧ w'.heap.size = w.heap.size := by
  have hlt := imap_size h
  obtain ⟨es, c, hr, he⟩ := h
  have hu : (underlying T).run P w = .ok (.map K E) w := run_underlying hT w
  have hg : (getObj r).run P w = .ok (.map es c) w := by simp [getObj, Sem.run, hr]
  have hs : ∀ o, (setObj r o).run P w = .ok () (w.putObj r o) := fun o => by simp [setObj, Sem.run, hr, World.putObj]
  unfold Instr.mapUpdate
  rcases findNow_eq k es.toList m 0 he with ⟨h1, h2, h3⟩ | ⟨j, u, h1, h2, h4, h5⟩
  · have hf := run_find K hK k es.toList _ h2 w
    refine ⟨w.putObj r (.map (es.push { key := .int .i64 k, val := v, born := c }) (c + 1)), ?_, ?_, grownBy_putObj' w r _, by simp⟩
    · simp only [Sem.run_bind, hu, hg, Result.andThen_ok, run_check K hK, hf, hs]
    · exact ⟨_, _, World.putObj_heap_same hlt, by simp [he, h3 v]⟩
  · have hf := run_find K hK k es.toList _ h2 w
    rw [Nat.zero_add] at hf
    have hkey : ((es[j]?).map (·.key)).getD (.int .i64 k) = .int .i64 k := by
      have : (es[j]?).map (·.key) = some (.int .i64 k) := by simpa using h5
      rw [this]; rfl
    refine ⟨w.putObj r (.map (es.modify j fun e => { e with key := .int .i64 k, val := v }) c), ?_, ?_, grownBy_putObj' w r _, by simp⟩
    · simp only [Sem.run_bind, hu, hg, Result.andThen_ok, run_check K hK, hf, hkey]
      simp [Instr.keyThatStays, Instr.sameBits, hs]
    · refine ⟨_, _, World.putObj_heap_same hlt, ?_⟩
      rw [Array.toList_modify]
      exact h4 v

theorem IMap.below {w w' : World} {B r : Nat} {m : List (Int × Value)} (h : IMap w r m) (hb : Below B w w') (hr : r < B) : IMap w' r m := by
  obtain ⟨es, c, h, he⟩ := h
  exact ⟨es, c, (hb.block r hr).trans h, he⟩
theorem IMap.grew {w w' : World} {r : Nat} {m : List (Int × Value)} (h : IMap w r m) (hb : Grew w w') : IMap w' r m := h.below hb (imap_size h)
theorem IMap.alloc {w : World} {r : Nat} {m : List (Int × Value)} (h : IMap w r m) (o : Obj) : IMap (w.alloc o) r m := h.grew ((Grew.refl w).alloc o)
theorem IMap.new (w : World) : IMap (w.alloc (.map #[] 0)) w.heap.size [] := ⟨#[], 0, World.alloc_heap_new w _, rfl⟩
theorem IMap.far {w : World} {r : Nat} {m : List (Int × Value)} (h : IMap w r m) {p : Addr} (hp : r ≠ p.block) (u : Value) : IMap (w.setCell p u) r m := by
  obtain ⟨es, c, h, he⟩ := h
  exact ⟨es, c, (Below.heap_setCell w p u r hp).trans h, he⟩
theorem IMap.grown {w w' : World} {r : Nat} {row : Option Nat} {m : List (Int × Value)} (h : IMap w r m) (hg : w.grownBy w' row) (hr : some r ≠ row) : IMap w' r m := by
  have hlt := imap_size h
  obtain ⟨es, c, h, he⟩ := h
  exact ⟨es, c, (hg.block r hlt hr).trans h, he⟩

end Go.Proofs.Ytnihkdmdbmnniaa
