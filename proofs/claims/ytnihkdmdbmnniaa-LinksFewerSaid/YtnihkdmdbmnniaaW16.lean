/- Whole links out of and into a row of the call's own. -/
import Derived.Test.YtnihkdmdbmnniaaW15
import Derived.Deep.MidRow
set_option linter.unusedSimpArgs false
namespace Go.Proofs.Ytnihkdmdbmnniaa
open Go.RowKit

theorem Try.size34 : (Try.prog.info? 34).map (·.size) = some 5 := by kernel_rfl

theorem run_load34 (w : World) (b o : Nat) (x : Lk) (h0 : w.cell? ⟨b, o, none⟩ = some (.int .i64 x.fr)) (h1 : w.cell? ⟨b, o + 1, none⟩ = some (.int .i64 x.to)) (h2 : w.cell? ⟨b, o + 2, none⟩ = some (.int .i64 x.num)) (h3 : w.cell? ⟨b, o + 3, none⟩ = some (.int .i64 x.den)) (h4 : w.cell? ⟨b, o + 4, none⟩ = some (.int .i64 x.add)) :
    (Instr.loadAt 34 (.pointer (some ⟨b, o, none⟩))).run Try.prog w = .ok (.agg #[.int .i64 x.fr, .int .i64 x.to, .int .i64 x.num, .int .i64 x.den, .int .i64 x.add]) w := by
  refine run_loadAt_mid w b o 34 x.cs _ ?_ Try.underlying34 rfl Try.size34
  intro j v hv
  match j with
  | 0 => simp [Lk.cs] at hv; subst hv; exact h0
  | 1 => simp [Lk.cs] at hv; subst hv; exact h1
  | 2 => simp [Lk.cs] at hv; subst hv; exact h2
  | 3 => simp [Lk.cs] at hv; subst hv; exact h3
  | 4 => simp [Lk.cs] at hv; subst hv; exact h4
  | j + 5 => simp [Lk.cs] at hv

theorem own_load {w : World} {base g n c : Nat} {ls : List Lk} (h : w.ownsRow base 34 5 (.slice (some ⟨g, 0, none⟩) n c) n (lkv ls)) {a : Nat} (ha : a < n) (x : Lk) (hx : ls.getD a Lk.z = x) :
    (Instr.loadAt 34 (.pointer (some ⟨g, a * 5, none⟩))).run Try.prog w = .ok (.agg #[.int .i64 x.fr, .int .i64 x.to, .int .i64 x.num, .int .i64 x.den, .int .i64 x.add]) w := by
  subst hx
  obtain ⟨A, c', e, _, hs⟩ := own_sll h
  injection e with e1 _ _
  subst e1
  obtain ⟨b, off, e, _, hc⟩ := hs.2 (by omega)
  injection e with e
  injection e with e1 e2 _
  subst e1 e2
  obtain ⟨h0, h1, h2, h3, h4⟩ := hc a ha
  simp only [Nat.zero_add] at h0 h1 h2 h3 h4
  exact run_load34 w g (a * 5) _ h0 h1 h2 h3 h4

theorem own_store {w : World} {base g n c : Nat} {ls : List Lk} (h : w.ownsRow base 34 5 (.slice (some ⟨g, 0, none⟩) n c) n (lkv ls)) {a : Nat} (ha : a < n) (x : Lk) :
    ∃ w', (Instr.storeAt 34 (.pointer (some ⟨g, a * 5, none⟩)) (.agg #[.int .i64 x.fr, .int .i64 x.to, .int .i64 x.num, .int .i64 x.den, .int .i64 x.add])).run Try.prog w = .ok () w' ∧ w'.ownsRow base 34 5 (.slice (some ⟨g, 0, none⟩) n c) n (lkv (ls.set a x)) ∧ (∀ {z : World}, Grew z w → z.heap.size ≤ g → Grew z w') ∧ w'.heap.size = w.heap.size ∧ ∀ b, b ≠ g → ∀ o, w'.cell? ⟨b, o, none⟩ = w.cell? ⟨b, o, none⟩ := by
  have hB : ∃ cur, Blk w g 34 cur ∧ n * 5 ≤ cur.size := by
    rcases h.2 with ⟨h2, _⟩ | ⟨g', cap, cur, hv, hb, hh, r1, r2, r3, r4⟩
    · cases h2
    · injection hv with e1 _ e3
      injection e1 with e1
      injection e1 with e1 _ _
      subst e1 e3
      exact ⟨cur, hh, by rw [r3]; exact Nat.mul_le_mul_right 5 r1⟩
  obtain ⟨cur, hB, hsz⟩ := hB
  refine ⟨_, run_storeAt_mid w g (a * 5) 34 _ ?_ Try.size34 (by simp [Value.oneCell']), own_put5 h ha x, ?_, ?_, ?_⟩
  · intro j hj
    have hj : j < 5 := hj
    rw [hB.cell, hB.frozen]
    refine ⟨?_, rfl⟩
    rw [Array.getElem?_eq_getElem (by omega)]
    rfl
  · intro z hz hg
    exact grew_set (grew_set (grew_set (grew_set (grew_set hz hg _) hg _) hg _) hg _) hg _
  · simp [World.setCells, World.setCell]
  · intro b hb o
    exact World.cell?_setCells_out g _ _ w ⟨b, o, none⟩ (fun e _ => absurd e hb)

theorem own_put1 {w : World} {base : Nat} {e : TypeId} {g n c : Nat} {xs : List Int} (h : w.ownsRow base e 1 (.slice (some ⟨g, 0, none⟩) n c) n (xs.map (Value.int .i64))) (a : Nat) (v : Int) :
    (w.setCell ⟨g, a, none⟩ (.int .i64 v)).ownsRow base e 1 (.slice (some ⟨g, 0, none⟩) n c) n ((xs.set a v).map (Value.int .i64)) := by
  obtain ⟨h1, h2⟩ := h
  refine ⟨by simpa using h1, ?_⟩
  rcases h2 with ⟨h2, _⟩ | ⟨g', cap, cur, hv, hb, hh, r1, r2, r3, r4⟩
  · cases h2
  · injection hv with e1 _ e3
    injection e1 with e1
    injection e1 with e1 _ _
    subst e1 e3
    have hB : Blk w g e cur := hh
    refine .inr ⟨g, c, _, rfl, hb, hB.set a _, r1, r2, by simp [r3], ?_⟩
    rw [List.map_set, ← r4]
    simp [Array.toList_setIfInBounds, List.take_set]

theorem own_at {w : World} {base : Nat} {e : TypeId} {size n c : Nat} {A : Option Addr} {xs : List Value} (h : w.ownsRow base e size (.slice A n c) n xs) (hn : 0 < n) : ∃ g cur, A = some ⟨g, 0, none⟩ ∧ base ≤ g ∧ Blk w g e cur ∧ n * size ≤ cur.size := by
  rcases h.2 with ⟨_, h2⟩ | ⟨g', cap, cur, hv, hb, hh, r1, r2, r3, r4⟩
  · omega
  · injection hv with e1 _ e3
    subst e1 e3
    exact ⟨g', cur, rfl, hb, hh, by rw [r3]; exact Nat.mul_le_mul_right size r1⟩

/-- A load and a store, given by their runs. -/
theorem wpList_load_run {P : Program} {ops : Array Oper} {rest : List Oper} {op : Oper} {a : Act} {w : World} {Q : Exit → Act → World → Prop} (hgd : op.guard = none) (ty : TypeId) (x : Operand) (ho : op.op = .load ty x) (p v : Value) (hx : a.eval x = p)
    (hr : (Instr.loadAt ty p).run P w = .ok v w) (h : wpList P ops Q rest (a.put op.dst v) w) : wpList P ops Q (op :: rest) a w :=
  wpList_plain hgd fun _ hK => by
    unfold Oper.wp execOp
    simp only [ho, hx, Sem.run_bind, hr, Result.andThen_ok]
    exact hK _ _ h

theorem wpList_store_run {P : Program} {ops : Array Oper} {rest : List Oper} {op : Oper} {a : Act} {w : World} {Q : Exit → Act → World → Prop} (hgd : op.guard = none) (ty : TypeId) (x y : Operand) (ho : op.op = .store ty x y) (p v : Value) (hx : a.eval x = p) (hy : a.eval y = v) (w' : World)
    (hr : (Instr.storeAt ty p v).run P w = .ok () w') (h : wpList P ops Q rest (a.put op.dst undef) w') : wpList P ops Q (op :: rest) a w :=
  wpList_plain hgd fun _ hK => by
    unfold Oper.wp execOp
    simp only [ho, hx, hy, Sem.run_bind, hr, Result.andThen_ok]
    exact hK _ _ h
end Go.Proofs.Ytnihkdmdbmnniaa
