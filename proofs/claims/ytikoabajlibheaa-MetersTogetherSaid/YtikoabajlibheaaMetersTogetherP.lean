/- Plain facts for MetersTogether. -/
import Derived.Test.YtikoabajlibheaaW8
import Derived.Laws.AppendOwnNone
set_option linter.unusedSimpArgs false
namespace Go.Proofs.Ytikoabajlibheaa
open Go.RowKit

/-- An append of a slice of integers that came in, nil or not. -/
theorem wpList_append_sl {P : Program} (w : World) {ops : Array Oper} {rest : List Oper} {o : Oper} {a : Act} {Q : Exit → Act → World → Prop} (hgd : o.guard = none) (s x : Operand) (t : TypeId)
    (ho : o.op = .call { callee := .builtin .append, args := #[s, x], argTypes := #[t, t] })
    (base : Nat) (e : TypeId) (i : TypeInfo) (ht : P.underlying t = some (.slice e)) (hi : P.info? e = some i) (hz : i.zero = some (.int .i64 0)) (h1 : i.size = 1) (h8 : i.bytes = 8)
    (v : Value) (n : Nat) (xs : List Value) (hs : a.eval s = v) (hown : w.ownsRow base e 1 v n xs) (A : Option Addr) (m c : Nat) (ys : List Int) (hx : a.eval x = .slice A m c) (hsl : Sl w A m ys) (hnil : A = none → m = 0 ∧ c = 0)
    (hsz : n + m ≤ 65536) (hb : base ≤ w.heap.size)
    (h : ∀ v' w', w'.ownsRow base e 1 v' (n + m) (xs ++ ys.map (Value.int .i64)) → w.grownBy w' v.ownBlock → wpList P ops Q rest (a.put o.dst v') w') : wpList P ops Q (o :: rest) a w := by
  cases A with
  | none =>
    obtain ⟨rfl, rfl⟩ := hnil rfl
    have hy : ys = [] := List.eq_nil_of_length_eq_zero hsl.1
    subst hy
    exact wpList_append_own_none hgd s x t ho base e i 1 ht hi v n xs hs hown hx (h v w (by simpa using hown) (World.grownBy.refl w _))
  | some ad =>
    refine wpList_append_own w hgd s x t ho base e i (.int .i64 0) 1 8 ht hi hz h1 h8 rfl (by decide) v n xs hs hown ad m c (ys.map (Value.int .i64)) hx (by simp [hsl.1]) ?_ ?_ (by unfold maxLen; omega) (by omega) hb (fun v' w' h1 h2 _ => h v' w' h1 h2)
    · intro j u hu
      have hj : j < m := by
        rcases Nat.lt_or_ge j m with hj | hj
        · exact hj
        · rw [List.getElem?_eq_none (by simp [hsl.1]; exact hj)] at hu; cases hu
      obtain ⟨b, off, e, _, hc⟩ := hsl.2 (by omega)
      injection e with e
      subst e
      have e2 : (⟨b, off, none⟩ : Addr).add j = ⟨b, off + j, none⟩ := by unfold Addr.add; split <;> simp_all
      rw [e2, hc j hj]
      have hjl : j < ys.length := by rw [hsl.1]; exact hj
      simp [hjl] at hu
      simp [List.getD, hjl, hu]
    · intro u hu
      obtain ⟨y, _, rfl⟩ := List.mem_map.1 hu
      rfl

theorem en_app (a b : List Int) : en (a ++ b) = en a + en b := by unfold en; simp
theorem foldl_mx0 (l : List Int) : ∀ a, 0 ≤ a → l.foldl mx a = mx a (l.foldl mx 0) := by
  induction l with
  | nil => intro a h; unfold mx; simp; omega
  | cons x l ih =>
    intro a h
    simp only [List.foldl_cons]
    rw [ih (mx a x) (by unfold mx; split <;> omega), ih (mx 0 x) (by unfold mx; split <;> omega)]
    generalize List.foldl mx 0 l = z
    unfold mx
    split <;> (try split) <;> (try split) <;> (try split) <;> omega

theorem pk_app (a b : List Int) : pk (a ++ b) = mx (pk a) (pk b) := by
  unfold pk
  rw [List.map_append, List.foldl_append]
  exact foldl_mx0 _ _ (pk_le a).1

theorem pk_comm (a b : List Int) : pk (b ++ a) = pk (a ++ b) := by
  rw [pk_app, pk_app]; unfold mx; split <;> split <;> omega

theorem sz_mem (l : List Int) (x : Int) (h : x ∈ l) : sz x ≤ pk l := by
  obtain ⟨a, b, rfl⟩ := List.append_of_mem h
  rw [pk_app]
  have : pk (x :: b) = mx (pk [x]) (pk b) := by rw [show x :: b = [x] ++ b from rfl, pk_app]
  rw [this]
  have h1 : pk [x] = mx 0 (sz x) := rfl
  rw [h1]
  unfold mx
  split <;> split <;> (try split) <;> omega

def quietB (l : List Int) : Bool := l.all fun x => decide (0 ≤ clip x) && decide (clip x < 256)
def metB (p : Int) (l : List Int) : Bool := l.any fun x => (clip x == p) || (-clip x == p)

theorem quietB_snoc (l : List Int) (x : Int) : quietB (l ++ [x]) = (quietB l && (decide (0 ≤ clip x) && decide (clip x < 256))) := by simp [quietB]
theorem metB_snoc (p : Int) (l : List Int) (x : Int) : metB p (l ++ [x]) = (metB p l || ((clip x == p) || (-clip x == p))) := by simp [metB]

theorem sq_zero (x : Int) (h : x * x = 0) : x = 0 := by
  rcases Int.mul_eq_zero.1 h with h | h <;> exact h

theorem quiet_iff (l : List Int) : quietB l = (en l == 0) := by
  induction l with
  | nil => rfl
  | cons x l ih =>
    have e1 : en (x :: l) = q8 x * q8 x + en l := by simp [en]
    have e2 : quietB (x :: l) = ((decide (0 ≤ clip x) && decide (clip x < 256)) && quietB l) := by simp [quietB]
    rw [e2, ih, e1]
    have h1 := q8_le x
    have h2 := sq_le _ h1.1 h1.2
    have h3 := (en_le l).1
    have h4 : (0 ≤ clip x ∧ clip x < 256) ↔ q8 x = 0 := by unfold q8; omega
    by_cases h5 : q8 x = 0
    · obtain ⟨h6, h7⟩ := h4.2 h5
      rw [h5]
      simp [h6, h7]
    · have h8 : q8 x * q8 x ≠ 0 := fun h => h5 (sq_zero _ h)
      have h9 : ¬ (0 ≤ clip x ∧ clip x < 256) := fun h => h5 (h4.1 h)
      have e3 : (q8 x * q8 x + en l == 0) = false := by simp; omega
      rw [e3]
      rcases Classical.em (0 ≤ clip x) with h | h
      · have : ¬ clip x < 256 := fun h' => h9 ⟨h, h'⟩
        simp [this]
      · simp [h]

theorem met_all (l : List Int) : ((l.isEmpty && (pk l == 0)) || metB (pk l) l) = true := by
  cases l with
  | nil => rfl
  | cons y l =>
    simp only [List.isEmpty_cons, Bool.false_and, Bool.false_or]
    have key : ∀ (l : List Int) (a : Int), 0 ≤ a → (l.map sz).foldl mx a = a ∨ ∃ x ∈ l, sz x = (l.map sz).foldl mx a := by
      intro l
      induction l with
      | nil => intro a _; exact .inl rfl
      | cons x l ih =>
        intro a ha
        simp only [List.map_cons, List.foldl_cons]
        rcases ih (mx a (sz x)) (by unfold mx; split <;> omega) with h | ⟨z, hz, h⟩
        · rw [h]
          by_cases h2 : a < sz x
          · right; exact ⟨x, by simp, by unfold mx; rw [if_pos h2]⟩
          · left; unfold mx; rw [if_neg h2]
        · right; exact ⟨z, by simp [hz], h⟩
    have hm : ∃ x ∈ y :: l, sz x = pk (y :: l) := by
      have hy := sz_le y
      rcases key l (mx 0 (sz y)) (by unfold mx; split <;> omega) with h | ⟨x, hx, h⟩
      · refine ⟨y, by simp, ?_⟩
        have : pk (y :: l) = mx 0 (sz y) := h
        rw [this]; unfold mx; split <;> omega
      · exact ⟨x, by simp [hx], h⟩
    obtain ⟨x, hx, h⟩ := hm
    unfold metB
    rw [List.any_eq_true]
    refine ⟨x, hx, ?_⟩
    unfold sz mx at h
    split at h
    · simp [h]
    · simp [h]

theorem en_bound (l : List Int) (p : Int) (h : ∀ x ∈ l, sz x ≤ p) (hp : 0 ≤ p) : en l ≤ l.length * ((p + 255) / 256 * ((p + 255) / 256)) := by
  induction l with
  | nil => simp [en]
  | cons x l ih =>
    have e1 : en (x :: l) = q8 x * q8 x + en l := by simp [en]
    have hx := h x (by simp)
    have h1 : -((p + 255) / 256) ≤ q8 x ∧ q8 x ≤ (p + 255) / 256 := by unfold sz mx at hx; unfold q8; split at hx <;> omega
    have h2 : q8 x * q8 x ≤ (p + 255) / 256 * ((p + 255) / 256) := by
      generalize (p + 255) / 256 = m at *
      generalize q8 x = q at *
      have a1 : q * q = ((q.natAbs * q.natAbs : Nat) : Int) := by rw [Int.natAbs_mul_self]
      have a2 : q.natAbs ≤ m.toNat := by omega
      have a3 := Nat.mul_le_mul a2 a2
      have a4 : (m.toNat : Int) = m := by omega
      rw [a1, ← a4]
      exact_mod_cast a3
    have h3 := ih fun y hy => h y (by simp [hy])
    rw [e1, List.length_cons]
    generalize (p + 255) / 256 * ((p + 255) / 256) = z at *
    rw [Int.natCast_add, Int.add_mul]
    omega

theorem rclipY (x y : Int) (w : World) (h : Hid (clip x = y)) : Calls Try.prog 18 #[.int .i64 x] w fun e w' => e = .returned (.int .i64 y) ∧ w = w' := h.out ▸ rclip x w

theorem enV_small2 {xs : List Int} (h : xs.length ≤ 65536) : enV xs = .tuple #[.int .i64 (en xs), .int .i64 0] := by unfold enV; rw [if_pos h]

theorem own_empty (w : World) (e : TypeId) : (w.alloc (.cells #[] e)).ownsRow w.heap.size e 1 (.slice (some ⟨w.heap.size, 0, none⟩) 0 0) 0 [] :=
  ⟨rfl, .inr ⟨w.heap.size, 0, #[], rfl, Nat.le_refl _, World.alloc_heap_new w _, Nat.le_refl _, Nat.zero_le _, rfl, rfl⟩⟩

end Go.Proofs.Ytikoabajlibheaa
