/- Words for memory: worlds that only grew, slices of integers, rows of the call's own, blocks known whole. -/
import Derived.WalkKit
import Derived.WalkSpells
import Derived.WalkLawsBesides
import Derived.Lib.Hide
import Derived.Deep.Draws
import Derived.Maps.AppendAt
import Derived.RangeFuncOwn
import Derived.Laws.AppendOwnNone
namespace Go.Proofs.Ytnihkdmdbmnniaa
open Go.RowKit

theorem ret_int {k : IntKind} {a b : Int} (h : a = b) : Ending.returned (.int k a) = .returned (.int k b) := by rw [h]

/-- A slice value that reads as a list of integers. -/
def Sl (w : World) (A : Option Addr) (n : Nat) (xs : List Int) : Prop :=
  xs.length = n ∧ (0 < n → ∃ b off, A = some ⟨b, off, none⟩ ∧ b < w.heap.size ∧ ∀ j, j < n → w.cell? ⟨b, off + j, none⟩ = some (.int .i64 (xs.getD j 0)))

theorem take_snoc (xs : List Int) (k : Nat) (h : k < xs.length) : xs.take (k + 1) = xs.take k ++ [xs.getD k 0] := by
  rw [List.take_succ_eq_append_getElem h]; simp [List.getD, h]

/-- Only new memory was made. -/
def Grew (w w' : World) : Prop := Below w.heap.size w w'

theorem Grew.refl (w : World) : Grew w w := Below.refl _ _
theorem Grew.trans {a b c : World} (h : Grew a b) (k : Grew b c) : Grew a c := Below.trans h (Below.mono k h.size)
theorem Grew.alloc {a w : World} (h : Grew a w) (o : Obj) : Grew a (w.alloc o) := Below.alloc h h.size o
theorem Grew.drew {a w : World} (h : Grew a w) : Grew a w.drew := Below.drew h
theorem Grew.size {a w : World} (h : Grew a w) : a.heap.size ≤ w.heap.size := Below.size h
theorem Grew.cell {a w : World} (h : Grew a w) {b o : Nat} (hb : b < a.heap.size) : w.cell? ⟨b, o, none⟩ = a.cell? ⟨b, o, none⟩ := Below.cell h hb
theorem Grew.frozen {a w : World} (h : Grew a w) {b o : Nat} (hb : b < a.heap.size) : w.frozen? ⟨b, o, none⟩ = a.frozen? ⟨b, o, none⟩ := Below.frozen h hb

theorem Sl.grew {w w' : World} {A : Option Addr} {n : Nat} {xs : List Int} (h : Sl w A n xs) (g : Grew w w') : Sl w' A n xs := by
  obtain ⟨hl, hc⟩ := h
  refine ⟨hl, fun hn => ?_⟩
  obtain ⟨b, off, rfl, hb, hcell⟩ := hc hn
  exact ⟨b, off, rfl, Nat.lt_of_lt_of_le hb g.size, fun j hj => (g.cell hb).trans (hcell j hj)⟩

theorem Sl.nil (w : World) (A : Option Addr) : Sl w A 0 [] := ⟨rfl, fun h => absurd h (by omega)⟩

theorem cell_new (w : World) (cs : Array Value) (t : TypeId) (j : Nat) : (w.alloc (.cells cs t)).cell? ⟨w.heap.size, j, none⟩ = cs[j]? := by
  have h : (w.alloc (.cells cs t)).heap[w.heap.size]? = some (.cells cs t) := by
    show (w.heap.push _)[w.heap.size]? = _
    simp
  unfold World.cell?
  rw [h]
  rfl

theorem Sl.new (w : World) (xs : List Int) (t : TypeId) : Sl (w.alloc (.cells (xs.map (Value.int .i64)).toArray t)) (some ⟨w.heap.size, 0, none⟩) xs.length xs := by
  refine ⟨rfl, fun _ => ⟨_, _, rfl, by simp, fun j hj => ?_⟩⟩
  rw [Nat.zero_add, cell_new]
  simp [hj, List.getD]

theorem Grew.drewN {a w : World} (h : Grew a w) (n : Nat) : Grew a (w.drewN n) := ⟨h.os, h.tape, h.output, h.size, h.block⟩

theorem take_eq_snoc (xs ys : List Int) (k n : Nat) (hx : xs.length = n) (hy : ys.length = n) (h : k < n) (he : xs.take k = ys.take k) (hk : xs.getD k 0 = ys.getD k 0) : xs.take (k + 1) = ys.take (k + 1) := by
  rw [take_snoc xs k (by omega), take_snoc ys k (by omega), he, hk]

theorem Grew.of_drew {w w' : World} (h : Grew w.drew w') : Grew w w' := ⟨h.os, h.tape, h.output, h.size, h.block⟩

theorem own_grew {w w' : World} {base : Nat} {e : TypeId} {size : Nat} {v : Value} {n : Nat} {xs : List Value} (h : w.ownsRow base e size v n xs) (g : Grew w w') : w'.ownsRow base e size v n xs := by
  obtain ⟨h1, h2⟩ := h
  refine ⟨h1, ?_⟩
  rcases h2 with h2 | ⟨b, cap, cur, hv, hg, hh, r⟩
  · exact Or.inl h2
  · exact Or.inr ⟨b, cap, cur, hv, hg, (g.block b (Array.getElem?_eq_some_iff.1 hh).1).trans hh, r⟩

theorem own_sl {w : World} {base : Nat} {e : TypeId} {v : Value} {n : Nat} {xs : List Int} (h : w.ownsRow base e 1 v n (xs.map (Value.int .i64))) : ∃ A c, v = .slice A n c ∧ n ≤ c ∧ Sl w A n xs := by
  obtain ⟨h1, h2⟩ := h
  have hl : xs.length = n := by simpa using h1
  rcases h2 with ⟨rfl, rfl⟩ | ⟨g, cap, cur, rfl, _, hh, hnc, _, hsz, hcur⟩
  · exact ⟨none, 0, rfl, Nat.le_refl _, hl, fun h => absurd h (by omega)⟩
  · refine ⟨_, _, rfl, hnc, hl, fun _ => ⟨g, 0, rfl, (Array.getElem?_eq_some_iff.1 hh).1, fun j hj => ?_⟩⟩
    have hc : w.cell? ⟨g, 0 + j, none⟩ = cur[j]? := by
      unfold World.cell?
      rw [hh, Nat.zero_add]
      rfl
    rw [hc]
    have e1 : (List.take (n * 1) cur.toList)[j]? = (xs.map (Value.int .i64))[j]? := by rw [hcur]
    rw [List.getElem?_take, if_pos (by omega)] at e1
    rw [← Array.getElem?_toList, e1]
    simp [List.getD, hl ▸ hj]

theorem own_ge {w : World} {base : Nat} {e : TypeId} {size : Nat} {v : Value} {n : Nat} {xs : List Value} (h : w.ownsRow base e size v n xs) : ∀ k, v.ownBlock = some k → base ≤ k := by
  intro k hk
  rcases h.2 with ⟨rfl, _⟩ | ⟨g, cap, cur, rfl, hg, _⟩
  · simp [Value.ownBlock] at hk
  · simp [Value.ownBlock] at hk; omega

theorem grew_own {a w w' w0 : World} {base : Nat} {e : TypeId} {size : Nat} {v : Value} {n : Nat} {xs : List Value} (h : Grew a w) (hown : w0.ownsRow base e size v n xs) (hg : w.grownBy w' v.ownBlock) (hb : a.heap.size ≤ base := by first | exact Nat.le_refl _ | omega) : Grew a w' :=
  Below.grown h hg h.size fun k hk => Nat.le_trans hb (own_ge hown k hk)

theorem ret2 {a b c d : Value} (h : a = c) (h2 : b = d) : Ending.returned (.tuple #[a, b]) = .returned (.tuple #[c, d]) := by rw [h, h2]

theorem frozen_new (w : World) (cs : Array Value) (t : TypeId) (j : Nat) : (w.alloc (.cells cs t)).frozen? ⟨w.heap.size, j, none⟩ = false := by
  have h : (w.alloc (.cells cs t)).heap[w.heap.size]? = some (.cells cs t) := by
    show (w.heap.push _)[w.heap.size]? = _
    simp
  unfold World.frozen?
  rw [h]
  simp

theorem Grew.trans' {a b c : World} {B : Nat} (h : Grew a b) (k : Below B b c) (hB : a.heap.size ≤ B) : Grew a c := Below.trans h (k.mono hB)

theorem grew_set {a w : World} (h : Grew a w) {b o : Nat} (hb : a.heap.size ≤ b) (u : Value) : Grew a (w.setCell ⟨b, o, none⟩ u) := Below.setCell h hb u

theorem setCell_self (w : World) (b o : Nat) (u v : Value) (h : w.cell? ⟨b, o, none⟩ = some v) : (w.setCell ⟨b, o, none⟩ u).cell? ⟨b, o, none⟩ = some u :=
  World.cell?_setCell_same' _ _ _ (by rw [h]; rfl)

theorem setCell_size (w : World) (p : Addr) (u : Value) : (w.setCell p u).heap.size = w.heap.size := by simp [World.setCell]

/-- A part of a slice. -/
theorem Sl.cut {w : World} {b off n : Nat} {xs : List Int} (h : Sl w (some ⟨b, off, none⟩) n xs) (k s : Nat) (hk : k + s ≤ n) :
    Sl w (some ⟨b, off + k, none⟩) s ((xs.drop k).take s) := by
  obtain ⟨hl, hc⟩ := h
  refine ⟨by simp; omega, fun hs => ?_⟩
  obtain ⟨b', off', e, hb, hcell⟩ := hc (by omega)
  injection e with e
  injection e with e1 e2 _
  subst e1 e2
  refine ⟨b, off + k, rfl, hb, fun j hj => ?_⟩
  have := hcell (k + j) (by omega)
  rw [← Nat.add_assoc] at this
  rw [this]
  simp [List.getD, hj]

/-- A block that is known whole. -/
def Blk (w : World) (g : Nat) (t : TypeId) (cs : Array Value) : Prop := w.heap[g]? = some (.cells cs t)

theorem Blk.lt {w : World} {g : Nat} {t : TypeId} {cs : Array Value} (h : Blk w g t cs) : g < w.heap.size := (Array.getElem?_eq_some_iff.1 h).1
theorem Blk.new (w : World) (t : TypeId) (cs : Array Value) : Blk (w.alloc (.cells cs t)) w.heap.size t cs := World.alloc_heap_new w _
theorem Blk.alloc {w : World} {g : Nat} {t : TypeId} {cs : Array Value} (h : Blk w g t cs) (o : Obj) : Blk (w.alloc o) g t cs := (Below.heap_alloc w o g h.lt).trans h
theorem Blk.cell {w : World} {g : Nat} {t : TypeId} {cs : Array Value} (h : Blk w g t cs) (i : Nat) : w.cell? ⟨g, i, none⟩ = cs[i]? := by
  unfold Blk at h
  unfold World.cell?
  rw [h]
  rfl
theorem Blk.frozen {w : World} {g : Nat} {t : TypeId} {cs : Array Value} (h : Blk w g t cs) (i : Nat) : w.frozen? ⟨g, i, none⟩ = false := by
  unfold Blk at h
  unfold World.frozen?
  rw [h]
  simp
theorem Blk.set {w : World} {g : Nat} {t : TypeId} {cs : Array Value} (h : Blk w g t cs) (i : Nat) (u : Value) : Blk (w.setCell ⟨g, i, none⟩ u) g t (cs.setIfInBounds i u) := by
  unfold Blk at h ⊢
  simp [World.setCell, Array.getElem?_modify, h]
theorem Blk.far {w : World} {g : Nat} {t : TypeId} {cs : Array Value} (h : Blk w g t cs) {p : Addr} (hp : g ≠ p.block) (u : Value) : Blk (w.setCell p u) g t cs := (Below.heap_setCell w p u g hp).trans h
theorem Blk.below {w w' : World} {B g : Nat} {t : TypeId} {cs : Array Value} (h : Blk w g t cs) (hb : Below B w w') (hg : g < B) : Blk w' g t cs := (hb.block g hg).trans h
theorem Blk.grew {w w' : World} {g : Nat} {t : TypeId} {cs : Array Value} (h : Blk w g t cs) (hb : Grew w w') : Blk w' g t cs := (hb.block g h.lt).trans h
theorem Blk.put {w : World} {g l : Nat} {t : TypeId} {cs : Array Value} {o : Obj} (h : Blk w g t cs) (hl : w.heap[l]? = some o) (ho : o.isCells = false) (o' : Obj) : Blk (w.putObj l o') g t cs := by
  have : g ≠ l := by
    rintro rfl
    unfold Blk at h
    rw [h] at hl
    cases hl
    cases ho
  exact (World.putObj_heap_other this).trans h

theorem own_put {w : World} {base : Nat} {e : TypeId} {size : Nat} {v : Value} {n : Nat} {xs : List Value} (h : w.ownsRow base e size v n xs) {l : Nat} {o : Obj} (hl : w.heap[l]? = some o) (ho : o.isCells = false) (o' : Obj) : (w.putObj l o').ownsRow base e size v n xs := by
  obtain ⟨h1, h2⟩ := h
  refine ⟨h1, ?_⟩
  rcases h2 with h2 | ⟨g, cap, cur, hv, hg, hh, r⟩
  · exact Or.inl h2
  · exact Or.inr ⟨g, cap, cur, hv, hg, Blk.put (t := e) hh hl ho o', r⟩

theorem grew_put {a w : World} (h : Grew a w) {l : Nat} {o' : Obj} (hl : a.heap.size ≤ l) : Grew a (w.putObj l o') :=
  Below.grown h (grownBy_putObj' w l o') h.size (fun k e => by cases e; exact hl)

theorem own_cells {w : World} {base : Nat} {e : TypeId} {size : Nat} {v : Value} {n : Nat} {xs : List Value} (h : w.ownsRow base e size v n xs) : ∀ (j : Nat) (o : Obj), v.ownBlock = some j → w.heap[j]? = some o → o.isCells = true := by
  intro j o hj ho
  rcases h.2 with ⟨rfl, _⟩ | ⟨g, cap, cur, rfl, hg, hh, _⟩
  · simp [Value.ownBlock] at hj
  · simp [Value.ownBlock] at hj
    subst hj
    rw [hh] at ho
    cases ho
    rfl

theorem Sl.news {w : World} {g : Nat} {x : Int} (h : Sl w (some ⟨g, 0, none⟩) 1 [x]) : ∀ (j : Nat) (u : Value), [Value.int .i64 x][j]? = some u → w.cell? ((⟨g, 0, none⟩ : Addr).add j) = some u := by
  intro j u hu
  obtain ⟨b, off, e, _, hc⟩ := h.2 (by omega)
  injection e with e
  injection e with e1 e2 _
  subst e1 e2
  cases j with
  | zero =>
    simp at hu
    subst hu
    have := hc 0 (by omega)
    simpa [Addr.add] using this
  | succ j => simp at hu

theorem own_sl2 {w : World} {base : Nat} {e : TypeId} {A : Option Addr} {m c : Nat} {n : Nat} {xs : List Int} (h : w.ownsRow base e 1 (.slice A m c) n (xs.map (Value.int .i64))) : Sl w A n xs := by
  obtain ⟨A', c', e, _, hs⟩ := own_sl h
  injection e with e1 _ _
  subst e1
  exact hs

theorem Sl.new' (w : World) (xs : List Int) (t : TypeId) (z : Nat) (hz : w.heap.size = z) : Sl (w.alloc (.cells (xs.map (Value.int .i64)).toArray t)) (some ⟨z, 0, none⟩) xs.length xs := by
  subst hz; exact Sl.new w xs t

/-- A slice that came in. -/
theorem sl_of_row {w : World} {a : Option Addr} {len cap : Nat} {zs : List Int}
    (h : (a = none ∧ len = 0 ∧ cap = 0 ∧ zs = []) ∨ ∃ x, a = some x ∧ len ≤ cap ∧ cap ≤ maxLen ∧ zs.length = cap ∧ (∀ i, i < zs.length → w.cell? (x.add i) = some (.int .i64 (zs.getD i 0))) ∧ ∀ n ∈ zs, (Lit.int .i64 n).wf = true) :
    Sl w a len (zs.take len) ∧ len ≤ cap := by
  rcases h with ⟨rfl, rfl, rfl, rfl⟩ | ⟨x, rfl, hl, _, hz, hc, _⟩
  · exact ⟨Sl.nil _ _, Nat.le_refl _⟩
  · refine ⟨⟨by simp; omega, fun hn => ?_⟩, hl⟩
    have h0 := hc 0 (by omega)
    have hs : x.spot = none := by
      cases hsp : x.spot with
      | none => rfl
      | some k =>
        exfalso
        simp only [Addr.add, if_true, World.cell?] at h0
        split at h0
        · simp [hsp] at h0
        · cases h0
    have hb : x.block < w.heap.size := by
      rcases Nat.lt_or_ge x.block w.heap.size with h | h
      · exact h
      · simp [Addr.add, World.cell?, Array.getElem?_eq_none h] at h0
    refine ⟨x.block, x.off, by rw [← hs], hb, fun j hj => ?_⟩
    have := hc j (by omega)
    have e : x.add j = ⟨x.block, x.off + j, none⟩ := by
      unfold Addr.add
      split
      · rename_i h; subst h; rw [← hs]; rfl
      · rfl
    rw [e] at this
    rw [this]
    simp [List.getD, hj]

/-- An append of a slice of integers that came in, nil or not. -/
theorem wpList_append_sl {P : Program} (w : World) {ops : Array Oper} {rest : List Oper} {o : Oper} {a : Act} {Q : Exit → Act → World → Prop} (hgd : o.guard = none) (s x : Operand) (t : TypeId)
    (ho : o.op = .call { callee := .builtin .append, args := #[s, x], argTypes := #[t, t] })
    (base : Nat) (e : TypeId) (i : TypeInfo) (ht : P.underlying t = some (.slice e)) (hi : P.info? e = some i) (hz : i.zero = some (.int .i64 0)) (h1 : i.size = 1) (h8 : i.bytes = 8)
    (v : Value) (n : Nat) (xs : List Value) (hs : a.eval s = v) (hown : w.ownsRow base e 1 v n xs) (A : Option Addr) (m c : Nat) (ys : List Int) (hx : a.eval x = .slice A m c) (hsl : Sl w A m ys) (hnil : A = none → m = 0 ∧ c = 0)
    (hsz : n + m ≤ 65536) (hb : base ≤ w.heap.size)
    (h : ∀ v' w', w'.ownsRow base e 1 v' (n + m) (xs ++ ys.map (Value.int .i64)) → w.grownBy w' v.ownBlock → wpList P ops Q rest (a.put o.dst v') w') : wpList P ops Q (o :: rest) a w := by
  cases A with
  | none =>
    obtain ⟨rfl, rfl⟩ := hnil rfl
    have hy : ys = [] := List.eq_nil_of_length_eq_zero hsl.1
    subst hy
    exact wpList_append_own_none hgd s x t ho base e i 1 ht hi v n xs hs hown hx (h v w (by simpa using hown) (World.grownBy.refl w _))
  | some ad =>
    refine wpList_append_own w hgd s x t ho base e i (.int .i64 0) 1 8 ht hi hz h1 h8 rfl (by decide) v n xs hs hown ad m c (ys.map (Value.int .i64)) hx (by simp [hsl.1]) ?_ ?_ (by unfold maxLen; omega) (by omega) hb (fun v' w' h1 h2 _ => h v' w' h1 h2)
    · intro j u hu
      have hj : j < m := by
        rcases Nat.lt_or_ge j m with hj | hj
        · exact hj
        · rw [List.getElem?_eq_none (by simp [hsl.1]; exact hj)] at hu; cases hu
      obtain ⟨b, off, e, _, hc⟩ := hsl.2 (by omega)
      injection e with e
      subst e
      have e2 : (⟨b, off, none⟩ : Addr).add j = ⟨b, off + j, none⟩ := by unfold Addr.add; split <;> simp_all
      rw [e2, hc j hj]
      have hjl : j < ys.length := by rw [hsl.1]; exact hj
      simp [hjl] at hu
      simp [List.getD, hjl, hu]
    · intro u hu
      obtain ⟨y, _, rfl⟩ := List.mem_map.1 hu
      rfl

theorem own_empty (w : World) (e : TypeId) : (w.alloc (.cells #[] e)).ownsRow w.heap.size e 1 (.slice (some ⟨w.heap.size, 0, none⟩) 0 0) 0 [] :=
  ⟨rfl, .inr ⟨w.heap.size, 0, #[], rfl, Nat.le_refl _, World.alloc_heap_new w _, Nat.le_refl _, Nat.zero_le _, rfl, rfl⟩⟩

end Go.Proofs.Ytnihkdmdbmnniaa
