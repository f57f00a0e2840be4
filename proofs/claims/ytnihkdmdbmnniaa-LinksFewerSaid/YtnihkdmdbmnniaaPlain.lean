/- Plain facts on links: which parameter is next, the order. -/
import Derived.Test.YtnihkdmdbmnniaaW2
namespace Go.Proofs.Ytnihkdmdbmnniaa
open Go.RowKit

/-- The last link to a parameter. -/
def src (ls : List Lk) (p : Int) : Option Lk := ls.reverse.find? (fun x => decide (x.to = p))

theorem mlook_mput (m : List (Int × Value)) (k : Int) (v : Value) (p : Int) : mlook (mput m k v) p = if p = k then some v else mlook m p := by
  induction m with
  | nil => simp [mput, mlook]
  | cons q m ih =>
    obtain ⟨k', v'⟩ := q
    simp only [mput]
    by_cases h : k = k'
    · subst h
      simp only [if_true, mlook]
      split <;> rfl
    · simp only [if_neg h, mlook, ih]
      by_cases h2 : p = k'
      · subst h2
        simp [Ne.symm h]
      · simp [h2]

theorem mlook_mapOf (ls : List Lk) (p : Int) : mlook (mapOf ls) p = (src ls p).map Lk.v := by
  have h : ∀ (n : Nat) (ls : List Lk), ls.length = n → mlook (mapOf ls) p = (src ls p).map Lk.v := by
    intro n
    induction n with
    | zero =>
      intro ls hl
      have : ls = [] := List.eq_nil_of_length_eq_zero hl
      subst this
      rfl
    | succ n ih =>
      intro ls hl
      have hne : ls ≠ [] := by rintro rfl; simp at hl
      have e := List.dropLast_concat_getLast hne
      generalize ls.dropLast = l0 at *
      generalize ls.getLast hne = x at *
      subst e
      rw [mapOf_snoc, mlook_mput, ih l0 (by simpa using hl)]
      unfold src
      rw [List.reverse_append]
      simp only [List.reverse_cons, List.reverse_nil, List.nil_append, List.singleton_append, List.find?_cons]
      by_cases h : p = x.to
      · subst h; simp
      · simp [h, Ne.symm h]
  exact h _ ls rfl

/-- What has been listed. -/
def lm (os : List Int) : List (Int × Value) := os.map fun p => (p, .bool true)

theorem mlook_lm (os : List Int) (p : Int) : mlook (lm os) p = if p ∈ os then some (.bool true) else none := by
  induction os with
  | nil => rfl
  | cons q os ih =>
    show (if p = q then some (.bool true) else mlook (lm os) p) = _
    rw [ih]
    by_cases h : p = q
    · simp [h]
    · simp [h]

theorem mput_lm (os : List Int) (p : Int) (h : p ∉ os) : mput (lm os) p (.bool true) = lm (os ++ [p]) := by
  induction os with
  | nil => rfl
  | cons q os ih =>
    have h1 : p ≠ q := fun e => h (by simp [e])
    have h2 : p ∉ os := fun e => h (by simp [e])
    show (if p = q then _ else _) = _
    rw [if_neg h1]
    have e := ih h2
    unfold lm at e
    rw [e]
    rfl

/-- A parameter may be the next one. -/
def rdy (ls : List Lk) (os : List Int) (p : Int) : Bool :=
  !decide (p ∈ os) && (match src ls p with | none => true | some x => decide (x.fr ∈ os))

/-- The first parameter below n that may be the next one, from k on. -/
def nextF (ls : List Lk) (os : List Int) (n : Nat) : Option Nat := (List.range n).find? fun p => rdy ls os p

end Go.Proofs.Ytnihkdmdbmnniaa
