/- Rows of links of the call's own: appending, storing. -/
import Derived.Test.YtnihkdmdbmnniaaW8
set_option linter.unusedSimpArgs false
namespace Go.Proofs.Ytnihkdmdbmnniaa
open Go.RowKit
open Go.ChangeShapes Go.WideShapes Go.ChangeAt Go.Deep

theorem Try.info34 : (Try.prog.info? 34).map (fun i => (i.zero, i.size, i.bytes)) = some (some Lk.z.v, 5, 40) := by kernel_rfl

def Lk.cs (x : Lk) : List Value := [.int .i64 x.fr, .int .i64 x.to, .int .i64 x.num, .int .i64 x.den, .int .i64 x.add]

/-- The cells of links. -/
def lkv (ls : List Lk) : List Value := ls.flatMap Lk.cs

theorem lkv_length (ls : List Lk) : (lkv ls).length = ls.length * 5 := by
  induction ls with
  | nil => rfl
  | cons x ls ih => simp only [lkv, List.flatMap_cons, List.length_append, List.length_cons] at *; rw [ih]; simp [Lk.cs]; omega

theorem lkv_append (a b : List Lk) : lkv (a ++ b) = lkv a ++ lkv b := by simp [lkv]

theorem lkv_one (ls : List Lk) (u : Value) (h : u ∈ lkv ls) : u.oneCell' = true := by
  obtain ⟨x, _, hx⟩ := List.mem_flatMap.1 h
  simp [Lk.cs] at hx
  rcases hx with rfl | rfl | rfl | rfl | rfl <;> rfl

theorem lkv_get : ∀ (ls : List Lk) (j i : Nat), j < ls.length → i < 5 → (lkv ls)[j * 5 + i]? = (ls.getD j Lk.z).cs[i]?
  | [], j, i, h, _ => by simp at h
  | x :: ls, 0, i, _, hi => by
    simp only [lkv, List.flatMap_cons, Nat.zero_mul, Nat.zero_add]
    rw [List.getElem?_append_left (by simp [Lk.cs]; omega)]
    rfl
  | x :: ls, j + 1, i, h, hi => by
    have := lkv_get ls j i (by simpa using h) hi
    simp only [lkv, List.flatMap_cons]
    rw [List.getElem?_append_right (by simp [Lk.cs]; omega)]
    have e : (j + 1) * 5 + i - x.cs.length = j * 5 + i := by simp [Lk.cs]; omega
    rw [e]
    exact this

theorem SlL.news {w : World} {ad : Addr} {m : Nat} {ls : List Lk} (h : SlL w (some ad) m ls) : ∀ (j : Nat) (u : Value), (lkv ls)[j]? = some u → w.cell? (ad.add j) = some u := by
  intro j u hu
  have hj : j < m * 5 := by
    rcases Nat.lt_or_ge j (m * 5) with hj | hj
    · exact hj
    · rw [List.getElem?_eq_none (by rw [lkv_length, h.1]; exact hj)] at hu; cases hu
  obtain ⟨b, off, e, _, hc⟩ := h.2 (by omega)
  injection e with e
  subst e
  have e2 : (⟨b, off, none⟩ : Addr).add j = ⟨b, off + j, none⟩ := by unfold Addr.add; split <;> simp_all
  rw [e2]
  have hd : j = j / 5 * 5 + j % 5 := by omega
  have hi : j % 5 < 5 := Nat.mod_lt _ (by omega)
  have hk : j / 5 < m := by omega
  rw [hd] at hu ⊢
  generalize j / 5 = k at *
  generalize j % 5 = i at *
  rw [lkv_get ls k i (by rw [h.1]; exact hk) hi] at hu
  have hck := hc k hk
  rw [← Nat.add_assoc]
  match i, hi with
  | 0, _ => simp [Lk.cs] at hu; rw [← hu]; exact hck.1
  | 1, _ => simp [Lk.cs] at hu; rw [← hu]; exact hck.2.1
  | 2, _ => simp [Lk.cs] at hu; rw [← hu]; exact hck.2.2.1
  | 3, _ => simp [Lk.cs] at hu; rw [← hu]; exact hck.2.2.2.1
  | 4, _ => simp [Lk.cs] at hu; rw [← hu]; exact hck.2.2.2.2

theorem own_sll {w : World} {base : Nat} {e : TypeId} {v : Value} {n : Nat} {ls : List Lk} (h : w.ownsRow base e 5 v n (lkv ls)) : ∃ A c, v = .slice A n c ∧ n ≤ c ∧ SlL w A n ls := by
  obtain ⟨h1, h2⟩ := h
  have hl : ls.length = n := by rw [lkv_length] at h1; omega
  rcases h2 with ⟨rfl, rfl⟩ | ⟨g, cap, cur, rfl, _, hh, hnc, _, hsz, hcur⟩
  · exact ⟨none, 0, rfl, Nat.le_refl _, hl, fun h => absurd h (by omega)⟩
  · refine ⟨_, _, rfl, hnc, hl, fun _ => ⟨g, 0, rfl, (Array.getElem?_eq_some_iff.1 hh).1, fun j hj => ?_⟩⟩
    have hc : ∀ i, i < 5 → w.cell? ⟨g, 0 + j * 5 + i, none⟩ = (ls.getD j Lk.z).cs[i]? := by
      intro i hi
      have hc : w.cell? ⟨g, 0 + j * 5 + i, none⟩ = cur[j * 5 + i]? := by
        unfold World.cell?
        rw [hh, Nat.zero_add]
        rfl
      have e1 : (List.take (n * 5) cur.toList)[j * 5 + i]? = (lkv ls)[j * 5 + i]? := by rw [hcur]
      rw [List.getElem?_take, if_pos (by omega)] at e1
      rw [hc, ← Array.getElem?_toList, e1, lkv_get ls j i (by omega) hi]
    exact ⟨hc 0 (by omega), hc 1 (by omega), hc 2 (by omega), hc 3 (by omega), hc 4 (by omega)⟩

/-- An append of a slice of links, nil or not. -/
theorem wpList_append_sll {P : Program} (w : World) {ops : Array Oper} {rest : List Oper} {o : Oper} {a : Act} {Q : Exit → Act → World → Prop} (hgd : o.guard = none) (s x : Operand) (t : TypeId)
    (ho : o.op = .call { callee := .builtin .append, args := #[s, x], argTypes := #[t, t] })
    (base : Nat) (e : TypeId) (i : TypeInfo) (ht : P.underlying t = some (.slice e)) (hi : P.info? e = some i) (hz : i.zero = some Lk.z.v) (h1 : i.size = 5) (h8 : i.bytes = 40)
    (v : Value) (n : Nat) (xs : List Lk) (hs : a.eval s = v) (hown : w.ownsRow base e 5 v n (lkv xs)) (A : Option Addr) (m c : Nat) (ys : List Lk) (hx : a.eval x = .slice A m c) (hsl : SlL w A m ys) (hnil : A = none → m = 0 ∧ c = 0)
    (hsz : n + m ≤ 65536) (hb : base ≤ w.heap.size)
    (h : ∀ v' w', w'.ownsRow base e 5 v' (n + m) (lkv (xs ++ ys)) → w.grownBy w' v.ownBlock → wpList P ops Q rest (a.put o.dst v') w') : wpList P ops Q (o :: rest) a w := by
  cases A with
  | none =>
    obtain ⟨rfl, rfl⟩ := hnil rfl
    have hy : ys = [] := List.eq_nil_of_length_eq_zero hsl.1
    subst hy
    exact wpList_append_own_none hgd s x t ho base e i 5 ht hi v n _ hs hown hx (h v w (by simpa using hown) (World.grownBy.refl w _))
  | some ad =>
    refine wpList_append_own w hgd s x t ho base e i Lk.z.v 5 40 ht hi hz h1 h8 rfl (by decide) v n _ hs hown ad m c (lkv ys) hx (by rw [lkv_length, hsl.1]) hsl.news (lkv_one ys) (by unfold maxLen; omega) (by omega) hb (fun v' w' h1 h2 _ => h v' w' (by rw [lkv_append]; exact h1) h2)

theorem own_empty5 (w : World) (e : TypeId) : (w.alloc (.cells #[] e)).ownsRow w.heap.size e 5 (.slice (some ⟨w.heap.size, 0, none⟩) 0 0) 0 [] :=
  ⟨rfl, .inr ⟨w.heap.size, 0, #[], rfl, Nat.le_refl _, World.alloc_heap_new w _, Nat.le_refl _, Nat.zero_le _, rfl, rfl⟩⟩

/-- A slice of links that came in: nil, or its place. -/
theorem open_nil {H : Type} {enc : TypeId × Value → H} {w : World} {base : Nat} {sp : Nat → Bool} {hd : Bool} {fuel : Nat} {a : Option Addr} {len cap : Nat} {x : DataW H × List MemPlace}
    (h : DataW.trod enc Try.prog w base sp hd fuel 22 [.slice a len cap] = some x) : a = none → len = 0 ∧ cap = 0 := by
  rcases open_slice Try.underlying22 h with ⟨hcs, _⟩ | ⟨y, l, c, m, n, D, Pl, hcs, hb, hl, hm, hmm, _, hx⟩
  · simp at hcs
    obtain ⟨rfl, rfl, rfl⟩ := hcs
    exact fun _ => ⟨rfl, rfl⟩
  · simp at hcs
    obtain ⟨rfl, rfl, rfl⟩ := hcs
    intro h; cases h

theorem lkv_set : ∀ (ls : List Lk) (a : Nat) (x : Lk), a < ls.length → (((((lkv ls).set (a * 5) (.int .i64 x.fr)).set (a * 5 + 1) (.int .i64 x.to)).set (a * 5 + 2) (.int .i64 x.num)).set (a * 5 + 3) (.int .i64 x.den)).set (a * 5 + 4) (.int .i64 x.add) = lkv (ls.set a x)
  | [], a, x, h => by simp at h
  | y :: ls, 0, x, _ => by simp [lkv, Lk.cs]
  | y :: ls, a + 1, x, h => by
    have ih := lkv_set ls a x (by simpa using h)
    have e : ∀ i, (a + 1) * 5 + i = (a * 5 + i) + 5 := by intro i; omega
    have e0 : (a + 1) * 5 = a * 5 + 5 := by omega
    simp only [List.set_cons_succ]
    show _ = y.cs ++ lkv (ls.set a x)
    rw [← ih]
    show (((((y.cs ++ lkv ls).set _ _).set _ _).set _ _).set _ _).set _ _ = _
    rw [e0]
    simp [Lk.cs]

theorem own_put5 {w : World} {base : Nat} {e : TypeId} {g n c : Nat} {ls : List Lk} (h : w.ownsRow base e 5 (.slice (some ⟨g, 0, none⟩) n c) n (lkv ls)) {a : Nat} (ha : a < n) (x : Lk) :
    (((((w.setCell ⟨g, a * 5, none⟩ (.int .i64 x.fr)).setCell ⟨g, a * 5 + 1, none⟩ (.int .i64 x.to)).setCell ⟨g, a * 5 + 2, none⟩ (.int .i64 x.num)).setCell ⟨g, a * 5 + 3, none⟩ (.int .i64 x.den)).setCell ⟨g, a * 5 + 4, none⟩ (.int .i64 x.add)).ownsRow base e 5 (.slice (some ⟨g, 0, none⟩) n c) n (lkv (ls.set a x)) := by
  obtain ⟨h1, h2⟩ := h
  have hl : ls.length = n := by rw [lkv_length] at h1; omega
  refine ⟨by rw [lkv_length, List.length_set, hl], ?_⟩
  rcases h2 with ⟨h2, _⟩ | ⟨g', cap, cur, hv, hb, hh, r1, r2, r3, r4⟩
  · cases h2
  · injection hv with e1 _ e3
    injection e1 with e1
    injection e1 with e1 _ _
    subst e1 e3
    have hB : Blk w g e cur := hh
    refine .inr ⟨g, c, _, rfl, hb, ((((hB.set (a * 5) _).set (a * 5 + 1) _).set (a * 5 + 2) _).set (a * 5 + 3) _).set (a * 5 + 4) _, r1, r2, by simp [r3], ?_⟩
    rw [← lkv_set ls a x (by omega), ← r4]
    simp [Array.toList_setIfInBounds, List.take_set]
end Go.Proofs.Ytnihkdmdbmnniaa
