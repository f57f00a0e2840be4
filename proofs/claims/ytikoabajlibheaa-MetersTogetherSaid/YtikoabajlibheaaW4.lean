/- Contracts of Hold: the loop; the reference's loop. -/
import Derived.Test.YtikoabajlibheaaW3
namespace Go.Proofs.Ytikoabajlibheaa
open Go.RowKit

theorem Try.info3 : (Try.prog.info? 3).map (fun i => (i.zero, i.size, i.bytes)) = some (some (.int .i64 0), 1, 8) := by kernel_rfl

theorem own_grew {w w' : World} {base : Nat} {e : TypeId} {size : Nat} {v : Value} {n : Nat} {xs : List Value} (h : w.ownsRow base e size v n xs) (g : Grew w w') : w'.ownsRow base e size v n xs := by
  obtain ⟨h1, h2⟩ := h
  refine ⟨h1, ?_⟩
  rcases h2 with h2 | ⟨b, cap, cur, hv, hg, hh, r⟩
  · exact Or.inl h2
  · exact Or.inr ⟨b, cap, cur, hv, hg, (g.block b (Array.getElem?_eq_some_iff.1 hh).1).trans hh, r⟩

theorem own_sl {w : World} {base : Nat} {e : TypeId} {v : Value} {n : Nat} {xs : List Int} (h : w.ownsRow base e 1 v n (xs.map (Value.int .i64))) : ∃ A c, v = .slice A n c ∧ n ≤ c ∧ Sl w A n xs := by
  obtain ⟨h1, h2⟩ := h
  have hl : xs.length = n := by simpa using h1
  rcases h2 with ⟨rfl, rfl⟩ | ⟨g, cap, cur, rfl, _, hh, hnc, _, hsz, hcur⟩
  · exact ⟨none, 0, rfl, Nat.le_refl _, hl, fun h => absurd h (by omega)⟩
  · refine ⟨_, _, rfl, hnc, hl, fun _ => ⟨g, 0, rfl, (Array.getElem?_eq_some_iff.1 hh).1, fun j hj => ?_⟩⟩
    have hc : w.cell? ⟨g, 0 + j, none⟩ = cur[j]? := by
      unfold World.cell?
      rw [hh, Nat.zero_add]
      rfl
    rw [hc]
    have e1 : (List.take (n * 1) cur.toList)[j]? = (xs.map (Value.int .i64))[j]? := by rw [hcur]
    rw [List.getElem?_take, if_pos (by omega)] at e1
    rw [← Array.getElem?_toList, e1]
    simp [List.getD, hl ▸ hj]

/-- The held sizes. -/
def holdL (f : Int) : Int → List Int → List Int
  | _, [] => []
  | h, x :: xs => hold1 f h x :: holdL f (hold1 f h x) xs

theorem holdL_snoc (f : Int) (x : Int) : ∀ (xs : List Int) (h : Int), holdL f h (xs ++ [x]) = holdL f h xs ++ [hold1 f (xs.foldl (hold1 f) h) x]
  | [], _ => rfl
  | y :: xs, h => by simp only [List.cons_append, holdL, List.foldl_cons, holdL_snoc f x xs]

theorem holdL_length (f : Int) : ∀ (xs : List Int) (h : Int), (holdL f h xs).length = xs.length
  | [], _ => rfl
  | y :: xs, h => by simp [holdL, holdL_length f xs]

theorem hold1_le (f h x : Int) (h1 : h ≤ 2147483648) (f0 : 0 ≤ f) : 0 ≤ hold1 f h x ∧ hold1 f h x ≤ 2147483648 := by
  have := sz_le x
  unfold hold1 mx
  split <;> split <;> omega

theorem holdS_le (f : Int) (f0 : 0 ≤ f) (xs : List Int) : 0 ≤ xs.foldl (hold1 f) 0 ∧ xs.foldl (hold1 f) 0 ≤ 2147483648 := by
  have h : ∀ (xs : List Int) (h : Int), 0 ≤ h → h ≤ 2147483648 → 0 ≤ xs.foldl (hold1 f) h ∧ xs.foldl (hold1 f) h ≤ 2147483648 := by
    intro xs
    induction xs with
    | nil => intro h a b; exact ⟨a, b⟩
    | cons x xs ih => intro h a b; exact ih _ (hold1_le f h x b f0).1 (hold1_le f h x b f0).2
  exact h xs 0 (by omega) (by omega)

theorem hold1_eq (f h x : Int) (h0 : 0 ≤ sz x) : hold1 f h x = if sz x < h - f then h - f else sz x := by
  unfold hold1 mx; split <;> (try split) <;> omega

theorem own_ge {w : World} {base : Nat} {e : TypeId} {size : Nat} {v : Value} {n : Nat} {xs : List Value} (h : w.ownsRow base e size v n xs) : ∀ k, v.ownBlock = some k → base ≤ k := by
  intro k hk
  rcases h.2 with ⟨rfl, _⟩ | ⟨g, cap, cur, rfl, hg, _⟩
  · simp [Value.ownBlock] at hk
  · simp [Value.ownBlock] at hk; omega

theorem grew_own {a w w' w0 : World} {base : Nat} {e : TypeId} {size : Nat} {v : Value} {n : Nat} {xs : List Value} (h : Grew a w) (hown : w0.ownsRow base e size v n xs) (hg : w.grownBy w' v.ownBlock) (hb : a.heap.size ≤ base := by first | exact Nat.le_refl _ | omega) : Grew a w' :=
  Below.grown h hg h.size fun k hk => Nat.le_trans hb (own_ge hown k hk)

/-- What Hold answers. -/
def HoldV (w : World) (xs : List Int) (f : Int) (e : Ending) (w' : World) : Prop :=
  Grew w w' ∧ ∃ A n c, Sl w' A n (if 0 ≤ f ∧ f ≤ 2147483648 then holdL f 0 xs else []) ∧ n ≤ c ∧ e = .returned (.tuple #[.slice A n c, .int .i64 (if 0 ≤ f ∧ f ≤ 2147483648 then 0 else 1)])

theorem ret2 {a b c d : Value} (h : a = c) (h2 : b = d) : Ending.returned (.tuple #[a, b]) = .returned (.tuple #[c, d]) := by rw [h, h2]

set_option maxHeartbeats 400000 in
theorem rhold (A : Option Addr) (n c : Nat) (xs : List Int) (f : Int) (w : World) (hs : Sl w A n xs) (hn : n ≤ 65536) :
    Calls Try.prog 14 #[.slice A n c, .int .i64 f] w (HoldV w xs f) := by
  by_cases hf : 0 ≤ f ∧ f ≤ 2147483648
  · have HV : Hid (∀ e w', (Grew w w' ∧ ∃ A n c, Sl w' A n (holdL f 0 xs) ∧ n ≤ c ∧ e = .returned (.tuple #[.slice A n c, .int .i64 0])) → HoldV w xs f e w') := by
      intro e w' h; unfold HoldV; rw [if_pos hf, if_pos hf]; exact h
    obtain ⟨f0, f1⟩ := hf
    have HL := Lib.hid hs.1
    have HS := Lib.hid hs
    clear hs
    obtain ⟨i0, hi, hz0, hz1, hz2⟩ := info_parts Try.info3
    go_enter Try.func14, Try.ntmps14
    go_wp2
    go_loopw [6, 7, 8] (fun v h i wr => ∃ k : Nat, k ≤ n ∧ i = .int .i64 k ∧ h = .int .i64 ((xs.take k).foldl (hold1 f) 0) ∧
      wr.ownsRow w.heap.size 3 1 v k ((holdL f 0 (xs.take k)).map (Value.int .i64)) ∧ Grew w wr) (fun _ _ i _ => n - (intOf i).toNat)
    case atStart => exact ⟨0, Nat.zero_le _, rfl, rfl, ⟨rfl, .inl ⟨rfl, rfl⟩⟩, Grew.refl _⟩
    case round =>
      obtain ⟨k, hk, rfl, rfl, hown, hg⟩ := hrel
      by_cases hlt : k < n
      · obtain ⟨b, off, rfl, hb, hcell⟩ := (HS.out.grew hg).2 (by omega)
        have hck := hcell k hlt
        have HK : Hid ((xs.take (k + 1)).foldl (hold1 f) 0 = hold1 f ((xs.take k).foldl (hold1 f) 0) (xs.getD k 0)) := by
          rw [take_snoc xs k (by rw [HL.out]; exact hlt)]; simp [Hid]
        have HK2 : Hid (holdL f 0 (xs.take (k + 1)) = holdL f 0 (xs.take k) ++ [hold1 f ((xs.take k).foldl (hold1 f) 0) (xs.getD k 0)]) := by
          rw [take_snoc xs k (by rw [HL.out]; exact hlt)]; exact holdL_snoc _ _ _ _
        have hbd := holdS_le f f0 (xs.take k)
        clear hcell
        generalize (xs.take k).foldl (hold1 f) 0 = h at *
        generalize xs.getD k 0 = x at *
        have hsx := sz_le x
        have HOWN := Lib.hid hown
        clear hown
        go_wp2_with (first | (go_at_call 25; refine (rsize _ _).mono ?_; rintro e w' ⟨rfl, rfl⟩) | (at_builtin; refine wpList_append_own _ rfl _ _ 22 rfl w.heap.size 3 i0 (.int .i64 0) 1 8 Try.underlying22 hi hz0 hz1 hz2 rfl (by decide) _ _ _ rfl (HOWN.out.alloc _) ⟨wr.heap.size, 0, none⟩ 1 1 [.int .i64 _] rfl rfl (cell_one_new _ _ _) (by simp [Value.oneCell']) (by unfold maxLen; omega) (by omega) (by have := hg.size; simp; omega) ?_; intro v' w1 hown' hgrow _))
        go_roundw
        case rel => exact ⟨k + 1, by omega, by go_num, by rw [HK.out, hold1_eq f h x hsx.1], by rw [HK2.out, List.map_append, hold1_eq f h x hsx.1]; exact hown', grew_own (hg.alloc _) HOWN.out hgrow⟩
        case measure => simp [intOf]; omega
      · go_wp2
        go_ret2
        have e : k = n := by omega
        rw [List.take_of_length_le (by rw [HL.out]; omega)] at hown
        obtain ⟨A', c', rfl, hc', hsl⟩ := own_sl hown
        exact HV.out _ _ ⟨hg, A', k, c', hsl, hc', rfl⟩
  · have HV : Hid (∀ e w', (Grew w w' ∧ ∃ A n c, Sl w' A n [] ∧ n ≤ c ∧ e = .returned (.tuple #[.slice A n c, .int .i64 1])) → HoldV w xs f e w') := by
      intro e w' h; unfold HoldV; rw [if_neg hf, if_neg hf]; exact h
    clear hs
    by_cases h1 : f < 0
    · go_enter Try.func14, Try.ntmps14
      go_wp2
      go_ret2
      exact HV.out _ _ ⟨Grew.refl _, none, 0, 0, Sl.nil _ _, Nat.le_refl _, rfl⟩
    · have h2 : 2147483648 < f := by omega
      go_enter Try.func14, Try.ntmps14
      go_wp2
      go_ret2
      exact HV.out _ _ ⟨Grew.refl _, none, 0, 0, Sl.nil _ _, Nat.le_refl _, rfl⟩

theorem frozen_new (w : World) (cs : Array Value) (t : TypeId) (j : Nat) : (w.alloc (.cells cs t)).frozen? ⟨w.heap.size, j, none⟩ = false := by
  have h : (w.alloc (.cells cs t)).heap[w.heap.size]? = some (.cells cs t) := by
    show (w.heap.push _)[w.heap.size]? = _
    simp
  unfold World.frozen?
  rw [h]
  simp

theorem Grew.trans' {a b c : World} {B : Nat} (h : Grew a b) (k : Below B b c) (hB : a.heap.size ≤ B) : Grew a c := Below.trans h (k.mono hB)

theorem grew_set {a w : World} (h : Grew a w) {b o : Nat} (hb : a.heap.size ≤ b) (u : Value) : Grew a (w.setCell ⟨b, o, none⟩ u) := Below.setCell h hb u

theorem setCell_self (w : World) (b o : Nat) (u v : Value) (h : w.cell? ⟨b, o, none⟩ = some v) : (w.setCell ⟨b, o, none⟩ u).cell? ⟨b, o, none⟩ = some u :=
  World.cell?_setCell_same' _ _ _ (by rw [h]; rfl)

theorem setCell_size (w : World) (p : Addr) (u : Value) : (w.setCell p u).heap.size = w.heap.size := by simp [World.setCell]

set_option maxHeartbeats 400000 in
theorem hold_ (A : Option Addr) (n c : Nat) (xs : List Int) (f : Int) (w : World) (hs : Sl w A n xs) (hn : n ≤ 65536) :
    Calls Try.prog 13 #[.slice A n c, .int .i64 f] w (HoldV w xs f) := by
  by_cases hf : 0 ≤ f ∧ f ≤ 2147483648
  · have HV : Hid (∀ e w', (Grew w w' ∧ ∃ A n c, Sl w' A n (holdL f 0 xs) ∧ n ≤ c ∧ e = .returned (.tuple #[.slice A n c, .int .i64 0])) → HoldV w xs f e w') := by
      intro e w' h; unfold HoldV; rw [if_pos hf, if_pos hf]; exact h
    obtain ⟨f0, f1⟩ := hf
    have HL := Lib.hid hs.1
    have HS := Lib.hid hs
    clear hs
    obtain ⟨i0, hi, hz0, hz1, hz2⟩ := info_parts Try.info3
    go_enter Try.func13, Try.ntmps13
    go_wp2
    go_loopw [4, 19] (fun v i wr => ∃ k : Nat, k ≤ n ∧ i = .int .i64 k ∧ wr.cell? ⟨w.heap.size + 1, 0, none⟩ = some (.int .i64 ((xs.take k).foldl (hold1 f) 0)) ∧
      wr.cell? ⟨w.heap.size, 0, none⟩ = some (.int .i64 f) ∧ wr.frozen? ⟨w.heap.size + 1, 0, none⟩ = false ∧ w.heap.size + 2 ≤ wr.heap.size ∧
      wr.ownsRow (w.heap.size + 2) 3 1 v k ((holdL f 0 (xs.take k)).map (Value.int .i64)) ∧ Grew w wr) (fun _ i _ => n - (intOf i).toNat)
    case atStart => 
      refine ⟨0, Nat.zero_le _, rfl, ?_, ?_, ?_, ?_, ⟨rfl, .inl ⟨rfl, rfl⟩⟩, ((Grew.refl _).alloc _).alloc _⟩
      · have := cell_new (w.alloc (Obj.cells #[Value.int IntKind.i64 f] 3)) #[Value.int IntKind.i64 0] 3 0
        rw [World.size_alloc] at this
        exact this
      · have := Grew.cell ((Grew.refl (w.alloc (Obj.cells #[Value.int IntKind.i64 f] 3))).alloc (Obj.cells #[Value.int IntKind.i64 0] 3)) (b := w.heap.size) (o := 0) (by simp)
        rw [this, cell_new]; rfl
      · have := frozen_new (w.alloc (Obj.cells #[Value.int IntKind.i64 f] 3)) #[Value.int IntKind.i64 0] 3 0
        rw [World.size_alloc] at this
        exact this
      · simp
    case round =>
      obtain ⟨k, hk, rfl, hch, hcf, hfz, hsz, hown, hg⟩ := hrel
      by_cases hlt : k < n
      · obtain ⟨b, off, rfl, hb, hcell⟩ := (HS.out.grew hg).2 (by omega)
        have hck := hcell k hlt
        have HK : Hid ((xs.take (k + 1)).foldl (hold1 f) 0 = hold1 f ((xs.take k).foldl (hold1 f) 0) (xs.getD k 0)) := by
          rw [take_snoc xs k (by rw [HL.out]; exact hlt)]; simp [Hid]
        have HK2 : Hid (holdL f 0 (xs.take (k + 1)) = holdL f 0 (xs.take k) ++ [hold1 f ((xs.take k).foldl (hold1 f) 0) (xs.getD k 0)]) := by
          rw [take_snoc xs k (by rw [HL.out]; exact hlt)]; exact holdL_snoc _ _ _ _
        have hbd := holdS_le f f0 (xs.take k)
        clear hcell
        generalize (xs.take k).foldl (hold1 f) 0 = h at *
        generalize xs.getD k 0 = x at *
        have HOWN := Lib.hid hown
        clear hown
        go_wp2_with (first | (go_at_call 22; refine (hold_next x h f (w.heap.size + 1) w.heap.size wr hch hcf hfz (by omega) (by omega) hbd.1 hbd.2 f0 f1).mono ?_; rintro e w' ⟨rfl, w2, hg2, rfl⟩) | (at_builtin; have hown2 := Lib.hid (ownsRow_setCell_below (own_grew HOWN.out hg2) (a := ⟨w.heap.size + 1, 0, none⟩) (by show w.heap.size + 1 < w.heap.size + 2; omega) (.int .i64 (hold1 f h x))); (refine wpList_append_own _ rfl _ _ 22 rfl (w.heap.size + 2) 3 i0 (.int .i64 0) 1 8 Try.underlying22 hi hz0 hz1 hz2 rfl (by decide) _ _ _ rfl (hown2.out.alloc _) ⟨w2.heap.size, 0, none⟩ 1 1 [.int .i64 (hold1 f h x)] rfl rfl (by have := cell_one_new (w2.setCell ⟨w.heap.size + 1, 0, none⟩ (.int .i64 (hold1 f h x))) (.int .i64 (hold1 f h x)) 3; rw [setCell_size] at this; exact this) (by simp [Value.oneCell']) (by unfold maxLen; omega) (by omega) (by have := hg2.size; simp; omega) ?_); intro v' w1 hown' hgrow _))
        have hs2 := hg2.size
        have hB : Below (w.heap.size + 2) (w2.setCell ⟨w.heap.size + 1, 0, none⟩ (.int .i64 (hold1 f h x))) w1 :=
          ((Below.refl _ _).alloc (by rw [setCell_size]; omega) _).grown hgrow (by rw [World.size_alloc, setCell_size]; omega) (own_ge HOWN.out)
        have k1 := (hB.cell (p := ⟨w.heap.size + 1, 0, none⟩) (by show w.heap.size + 1 < _; omega)).trans (setCell_self w2 (w.heap.size + 1) 0 (.int .i64 (hold1 f h x)) _ ((hg2.cell (by omega)).trans hch))
        have k2 := (hB.cell (p := ⟨w.heap.size, 0, none⟩) (by show w.heap.size < _; omega)).trans ((World.cell?_setCell_other w2 ⟨w.heap.size + 1, 0, none⟩ ⟨w.heap.size, 0, none⟩ (.int .i64 (hold1 f h x)) (by simp)).trans ((hg2.cell (by omega)).trans hcf))
        have k3 := (hB.frozen (p := ⟨w.heap.size + 1, 0, none⟩) (by show w.heap.size + 1 < _; omega)).trans ((World.frozen?_setCell w2 _ _ _).trans ((hg2.frozen (by omega)).trans hfz))
        have k4 := hB.size
        rw [setCell_size] at k4
        have k5 : Grew w w1 := (grew_set (hg.trans hg2) (by omega) _).trans' hB (by omega)
        go_roundw
        case rel => exact ⟨k + 1, by omega, by go_num, by rw [HK.out]; exact k1, k2, k3, by omega, by rw [HK2.out, List.map_append]; exact hown', k5⟩
        case measure => simp [intOf]; omega
      · go_wp2
        go_ret2
        have e : k = n := by omega
        rw [List.take_of_length_le (by rw [HL.out]; omega)] at hown
        obtain ⟨A', c', rfl, hc', hsl⟩ := own_sl hown
        exact HV.out _ _ ⟨hg, A', k, c', hsl, hc', rfl⟩
  · have HV : Hid (∀ e w', (Grew w w' ∧ ∃ A n c, Sl w' A n [] ∧ n ≤ c ∧ e = .returned (.tuple #[.slice A n c, .int .i64 1])) → HoldV w xs f e w') := by
      intro e w' h; unfold HoldV; rw [if_neg hf, if_neg hf]; exact h
    clear hs
    by_cases h1 : f < 0
    · go_enter Try.func13, Try.ntmps13
      go_wp2
      go_ret2
      exact HV.out _ _ ⟨(Grew.refl _).alloc _, none, 0, 0, Sl.nil _ _, Nat.le_refl _, rfl⟩
    · have h2 : 2147483648 < f := by omega
      go_enter Try.func13, Try.ntmps13
      go_wp2
      go_ret2
      exact HV.out _ _ ⟨(Grew.refl _).alloc _, none, 0, 0, Sl.nil _ _, Nat.le_refl _, rfl⟩

end Go.Proofs.Ytikoabajlibheaa
