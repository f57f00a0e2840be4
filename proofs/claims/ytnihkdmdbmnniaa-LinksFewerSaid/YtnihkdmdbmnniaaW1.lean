/- Contracts of the small functions of links. -/
import Derived.Test.YtnihkdmdbmnniaaRows
import Derived.Test.YtnihkdmdbmnniaaMap
namespace Go.Proofs.Ytnihkdmdbmnniaa
open Go.RowKit

/-- A link. -/
structure Lk where
  fr : Int
  to : Int
  num : Int
  den : Int
  add : Int
  deriving DecidableEq

def Lk.v (x : Lk) : Value := .agg #[.int .i64 x.fr, .int .i64 x.to, .int .i64 x.num, .int .i64 x.den, .int .i64 x.add]
def Lk.z : Lk := ⟨0, 0, 0, 0, 0⟩

/-- A slice value that reads as a list of links. -/
def SlL (w : World) (A : Option Addr) (n : Nat) (ls : List Lk) : Prop :=
  ls.length = n ∧ (0 < n → ∃ b off, A = some ⟨b, off, none⟩ ∧ b < w.heap.size ∧ ∀ j, j < n →
    w.cell? ⟨b, off + j * 5, none⟩ = some (.int .i64 (ls.getD j Lk.z).fr) ∧ w.cell? ⟨b, off + j * 5 + 1, none⟩ = some (.int .i64 (ls.getD j Lk.z).to) ∧
    w.cell? ⟨b, off + j * 5 + 2, none⟩ = some (.int .i64 (ls.getD j Lk.z).num) ∧ w.cell? ⟨b, off + j * 5 + 3, none⟩ = some (.int .i64 (ls.getD j Lk.z).den) ∧
    w.cell? ⟨b, off + j * 5 + 4, none⟩ = some (.int .i64 (ls.getD j Lk.z).add))

theorem SlL.grew {w w' : World} {A : Option Addr} {n : Nat} {xs : List Lk} (h : SlL w A n xs) (g : Grew w w') : SlL w' A n xs := by
  obtain ⟨hl, hc⟩ := h
  refine ⟨hl, fun hn => ?_⟩
  obtain ⟨b, off, rfl, hb, hcell⟩ := hc hn
  refine ⟨b, off, rfl, Nat.lt_of_lt_of_le hb g.size, fun j hj => ?_⟩
  obtain ⟨h0, h1, h2, h3, h4⟩ := hcell j hj
  exact ⟨(g.cell hb).trans h0, (g.cell hb).trans h1, (g.cell hb).trans h2, (g.cell hb).trans h3, (g.cell hb).trans h4⟩

def inB (x lo hi : Int) : Bool := decide (lo ≤ x ∧ x ≤ hi)

theorem within (x lo hi : Int) (w : World) (b : Bool) (hb : inB x lo hi = b) :
    Calls Try.prog 22 #[.int .i64 x, .int .i64 lo, .int .i64 hi] w fun e w' => e = .returned (.bool b) ∧ w = w' := by
  unfold inB at hb
  by_cases h1 : lo ≤ x
  · by_cases h2 : x ≤ hi
    · have e : b = true := by rw [← hb]; simp [h1, h2]
      subst e
      clear hb
      go_enter Try.func22, Try.ntmps22
      go_wp2
      go_ret
      exact ⟨rfl, rfl⟩
    · have e : b = false := by rw [← hb]; simp [h2]
      subst e
      clear hb
      go_enter Try.func22, Try.ntmps22
      go_wp2
      go_ret
      exact ⟨rfl, rfl⟩
  · have e : b = false := by rw [← hb]; simp [h1]
    subst e
    clear hb
    go_enter Try.func22, Try.ntmps22
    go_wp2
    go_ret
    exact ⟨rfl, rfl⟩

/-- A link is well-formed between n parameters. -/
def okL (n : Int) (x : Lk) : Bool := inB x.fr 0 (n - 1) && inB x.to 0 (n - 1) && (x.fr != x.to) && inB x.num (-2147483647) 2147483647 && inB x.den 1 2147483647 && inB x.add (-2147483648) 2147483647

set_option maxHeartbeats 1000000 in
theorem okL_ (x : Lk) (n : Int) (Bw Bn : Nat) (w : World) (h1 : w.cell? ⟨Bw, 0, none⟩ = some (.func (.func 22) #[] #[])) (h2 : w.cell? ⟨Bn, 0, none⟩ = some (.int .i64 n)) (b1 : Bw < w.heap.size) (b2 : Bn < w.heap.size)
    (n0 : 0 ≤ n) (n1 : n ≤ 256) :
    Calls Try.prog 25 #[x.v, .pointer (some ⟨Bw, 0, none⟩), .pointer (some ⟨Bn, 0, none⟩)] w fun e w' => e = .returned (.bool (okL n x)) ∧ Grew w w' := by
  obtain ⟨fr, to, num, den, add⟩ := x
  unfold okL Lk.v
  dsimp only
  cases q1 : inB fr 0 (n - 1)
  · go_enter Try.func25, Try.ntmps25
    go_wp2_with (go_at_call 22; refine (within _ _ _ _ _ (by assumption)).mono ?_; rintro e w1 ⟨rfl, rfl⟩)
    go_ret
    exact ⟨rfl, (Grew.refl _).alloc _⟩
  · skip
    cases q2 : inB to 0 (n - 1)
    · go_enter Try.func25, Try.ntmps25
      go_wp2_with (go_at_call 22; refine (within _ _ _ _ _ (by assumption)).mono ?_; rintro e w1 ⟨rfl, rfl⟩)
      go_ret
      exact ⟨rfl, (Grew.refl _).alloc _⟩
    · skip
      cases q3 : (fr != to)
      · go_enter Try.func25, Try.ntmps25
        go_wp2_with (go_at_call 22; refine (within _ _ _ _ _ (by assumption)).mono ?_; rintro e w1 ⟨rfl, rfl⟩)
        go_ret
        exact ⟨rfl, (Grew.refl _).alloc _⟩
      · skip
        cases q4 : inB num (-2147483647) 2147483647
        · go_enter Try.func25, Try.ntmps25
          go_wp2_with (go_at_call 22; refine (within _ _ _ _ _ (by assumption)).mono ?_; rintro e w1 ⟨rfl, rfl⟩)
          go_ret
          exact ⟨rfl, (Grew.refl _).alloc _⟩
        · skip
          cases q5 : inB den 1 2147483647
          · go_enter Try.func25, Try.ntmps25
            go_wp2_with (go_at_call 22; refine (within _ _ _ _ _ (by assumption)).mono ?_; rintro e w1 ⟨rfl, rfl⟩)
            go_ret
            exact ⟨rfl, (Grew.refl _).alloc _⟩
          · skip
            cases q6 : inB add (-2147483648) 2147483647
            · go_enter Try.func25, Try.ntmps25
              go_wp2_with (go_at_call 22; refine (within _ _ _ _ _ (by assumption)).mono ?_; rintro e w1 ⟨rfl, rfl⟩)
              go_ret
              exact ⟨rfl, (Grew.refl _).alloc _⟩
            · skip
              go_enter Try.func25, Try.ntmps25
              go_wp2_with (go_at_call 22; refine (within _ _ _ _ _ (by assumption)).mono ?_; rintro e w1 ⟨rfl, rfl⟩)
              go_ret
              exact ⟨rfl, (Grew.refl _).alloc _⟩

end Go.Proofs.Ytnihkdmdbmnniaa
