/- Contracts of the small functions: clipping, the greatest of some numbers. -/
import Derived.Test.YtikoabajlibheaaRows
import Derived.WalkKit
import Derived.WalkSpells
import Derived.WalkLawsBesides
import Derived.Lib.Hide
import Derived.Deep.Draws
namespace Go.Proofs.Ytikoabajlibheaa
open Go.RowKit

def clip (x : Int) : Int := if x < -2147483648 then -2147483648 else if x > 2147483647 then 2147483647 else x

theorem clip_le (x : Int) : -2147483648 ≤ clip x ∧ clip x ≤ 2147483647 := by unfold clip; omega

theorem ret_int {k : IntKind} {a b : Int} (h : a = b) : Ending.returned (.int k a) = .returned (.int k b) := by rw [h]

theorem fclip (x : Int) (w : World) :
    Calls Try.prog 26 #[.int .i64 x] w fun e w' => e = .returned (.int .i64 (clip x)) ∧ w = w' := by
  go_enter Try.func26, Try.ntmps26
  go_wp2
  all_goals
    go_ret
    refine ⟨ret_int ?_, rfl⟩
    unfold clip
    split <;> (try split) <;> omega

theorem rclip (x : Int) (w : World) :
    Calls Try.prog 18 #[.int .i64 x] w fun e w' => e = .returned (.int .i64 (clip x)) ∧ w = w' := by
  go_enter Try.func18, Try.ntmps18
  go_wp2
  all_goals
    go_ret
    refine ⟨ret_int ?_, rfl⟩
    unfold clip
    split <;> (try split) <;> omega

/-- A slice value that reads as a list of integers. -/
def Sl (w : World) (A : Option Addr) (n : Nat) (xs : List Int) : Prop :=
  xs.length = n ∧ (0 < n → ∃ b off, A = some ⟨b, off, none⟩ ∧ b < w.heap.size ∧ ∀ j, j < n → w.cell? ⟨b, off + j, none⟩ = some (.int .i64 (xs.getD j 0)))

def mx (a b : Int) : Int := if a < b then b else a

def mxl (a : Int) (l : List Int) : Int := l.foldl mx a

theorem take_snoc (xs : List Int) (k : Nat) (h : k < xs.length) : xs.take (k + 1) = xs.take k ++ [xs.getD k 0] := by
  rw [List.take_succ_eq_append_getElem h]; simp [List.getD, h]

theorem mxl_snoc (a : Int) (xs : List Int) (x : Int) : mxl a (xs ++ [x]) = mx (mxl a xs) x := by
  unfold mxl; simp

theorem greatest (a : Int) (A : Option Addr) (n c : Nat) (xs : List Int) (w : World) (hs : Sl w A n xs) (hn : n ≤ 9223372036854775806) :
    Calls Try.prog 23 #[.int .i64 a, .slice A n c] w fun e w' => e = .returned (.int .i64 (mxl a xs)) ∧ w = w' := by
  obtain ⟨hl, hc⟩ := hs
  have HL := Lib.hid hl
  clear hl
  go_enter Try.func23, Try.ntmps23
  go_wp2
  go_loop [0, 9] (fun m i => ∃ k : Nat, k ≤ n ∧ i = .int .i64 k ∧ m = .int .i64 (mxl a (xs.take k))) (fun _ i => n - (intOf i).toNat)
  case atStart => exact ⟨0, Nat.zero_le _, rfl, rfl⟩
  case round =>
    obtain ⟨k, hk, rfl, rfl⟩ := hrel
    by_cases hlt : k < n
    · obtain ⟨b, off, rfl, hb, hcell⟩ := hc (by omega)
      have hck := hcell k hlt
      have HS : Hid (mxl a (xs.take (k + 1)) = mx (mxl a (xs.take k)) (xs.getD k 0)) := by
        rw [take_snoc xs k (by rw [HL.out]; exact hlt)]; exact mxl_snoc _ _ _
      clear hcell hc
      generalize mxl a (xs.take k) = m at *
      generalize xs.getD k 0 = x at *
      go_wp2
      all_goals
        go_round
        case rel => exact ⟨k + 1, by omega, by go_num, by rw [HS.out]; unfold mx; first | rw [if_pos (by assumption)] | rw [if_neg (by omega)]⟩
        case measure => simp [intOf]; omega
    · go_wp2
      go_ret
      exact ⟨ret_int (by rw [List.take_of_length_le (by rw [HL.out]; omega)]), rfl⟩

/-- Only new memory was made. -/
def Grew (w w' : World) : Prop := Below w.heap.size w w'

theorem Grew.refl (w : World) : Grew w w := Below.refl _ _
theorem Grew.trans {a b c : World} (h : Grew a b) (k : Grew b c) : Grew a c := Below.trans h (Below.mono k h.size)
theorem Grew.alloc {a w : World} (h : Grew a w) (o : Obj) : Grew a (w.alloc o) := Below.alloc h h.size o
theorem Grew.drew {a w : World} (h : Grew a w) : Grew a w.drew := Below.drew h
theorem Grew.size {a w : World} (h : Grew a w) : a.heap.size ≤ w.heap.size := Below.size h
theorem Grew.cell {a w : World} (h : Grew a w) {b o : Nat} (hb : b < a.heap.size) : w.cell? ⟨b, o, none⟩ = a.cell? ⟨b, o, none⟩ := Below.cell h hb
theorem Grew.frozen {a w : World} (h : Grew a w) {b o : Nat} (hb : b < a.heap.size) : w.frozen? ⟨b, o, none⟩ = a.frozen? ⟨b, o, none⟩ := Below.frozen h hb

theorem Sl.grew {w w' : World} {A : Option Addr} {n : Nat} {xs : List Int} (h : Sl w A n xs) (g : Grew w w') : Sl w' A n xs := by
  obtain ⟨hl, hc⟩ := h
  refine ⟨hl, fun hn => ?_⟩
  obtain ⟨b, off, rfl, hb, hcell⟩ := hc hn
  exact ⟨b, off, rfl, Nat.lt_of_lt_of_le hb g.size, fun j hj => (g.cell hb).trans (hcell j hj)⟩

theorem Sl.nil (w : World) (A : Option Addr) : Sl w A 0 [] := ⟨rfl, fun h => absurd h (by omega)⟩

/-- The size of a sample. -/
def sz (x : Int) : Int := mx (clip x) (-clip x)

theorem sz_le (x : Int) : 0 ≤ sz x ∧ sz x ≤ 2147483648 := by have := clip_le x; unfold sz mx; split <;> omega

theorem cell_new (w : World) (cs : Array Value) (t : TypeId) (j : Nat) : (w.alloc (.cells cs t)).cell? ⟨w.heap.size, j, none⟩ = cs[j]? := by
  have h : (w.alloc (.cells cs t)).heap[w.heap.size]? = some (.cells cs t) := by
    show (w.heap.push _)[w.heap.size]? = _
    simp
  unfold World.cell?
  rw [h]
  rfl

theorem Sl.new (w : World) (xs : List Int) (t : TypeId) : Sl (w.alloc (.cells (xs.map (Value.int .i64)).toArray t)) (some ⟨w.heap.size, 0, none⟩) xs.length xs := by
  refine ⟨rfl, fun _ => ⟨_, _, rfl, by simp, fun j hj => ?_⟩⟩
  rw [Nat.zero_add, cell_new]
  simp [hj, List.getD]

theorem size_ (x : Int) (w : World) :
    Calls Try.prog 24 #[.int .i64 x] w fun e w' => e = .returned (.int .i64 (sz x)) ∧ Grew w w' := by
  have hx := clip_le x
  go_enter Try.func24, Try.ntmps24
  go_wp2_with (first | (go_at_call 26; refine (fclip _ _).mono ?_; rintro e w' ⟨rfl, rfl⟩) | (go_at_call 23; refine (greatest _ _ _ _ [-clip x] _ (Sl.new _ [-clip x] _) (by simp)).mono ?_; rintro e w' ⟨rfl, rfl⟩))
  go_ret
  exact ⟨rfl, (Grew.refl _).alloc _⟩

theorem rsize (x : Int) (w : World) :
    Calls Try.prog 25 #[.int .i64 x] w fun e w' => e = .returned (.int .i64 (sz x)) ∧ w = w' := by
  have hx := clip_le x
  have H : Hid (sz x = mx (clip x) (-clip x)) := rfl
  go_enter Try.func25, Try.ntmps25
  go_wp2_with (go_at_call 18; refine (rclip _ _).mono ?_; rintro e w' ⟨rfl, rfl⟩)
  all_goals
    go_ret
    refine ⟨ret_int ?_, rfl⟩
    rw [H.out]
    unfold mx
    split <;> omega

end Go.Proofs.Ytikoabajlibheaa
