/- A slice of links that came in. -/
import Derived.Test.YtnihkdmdbmnniaaW7
import Derived.Deep.Slices
import Derived.WalkKit
import Derived.ProofKit
import Derived.OpenShut
import Derived.ChangeOld
import Derived.Below
set_option linter.unusedSimpArgs false
namespace Go.Proofs.Ytnihkdmdbmnniaa
open Go.RowKit
open Go.ChangeShapes Go.WideShapes Go.ChangeAt Go.Deep

def Lk.wf (x : Lk) : Prop := (Lit.int .i64 x.fr).wf = true ∧ (Lit.int .i64 x.to).wf = true ∧ (Lit.int .i64 x.num).wf = true ∧ (Lit.int .i64 x.den).wf = true ∧ (Lit.int .i64 x.add).wf = true

instance : Inhabited Lk := ⟨Lk.z⟩

theorem spot_none {w : World} {x : Addr} {v : Value} (h0 : w.cell? x = some v) : x.spot = none := by
  cases hsp : x.spot with
  | none => rfl
  | some k =>
    exfalso
    simp only [World.cell?] at h0
    split at h0
    · simp [hsp] at h0
    · cases h0

theorem blk_lt {w : World} {x : Addr} {v : Value} (h0 : w.cell? x = some v) : x.block < w.heap.size := by
  rcases Nat.lt_or_ge x.block w.heap.size with h | h
  · exact h
  · simp [World.cell?, Array.getElem?_eq_none h] at h0

theorem open_link {H : Type} {enc : TypeId × Value → H} {w : World} {base : Nat} {sp : Nat → Bool} {hd : Bool} {fuel : Nat} {cs : List Value} {x : DataW H × List MemPlace}
    (h : DataW.trod enc Try.prog w base sp hd fuel 34 cs = some x) : ∃ l : Lk, l.wf ∧ cs = [.int .i64 l.fr, .int .i64 l.to, .int .i64 l.num, .int .i64 l.den, .int .i64 l.add] := by
  obtain ⟨xs, n, _, _, hl, hxl, hf⟩ := DataW.trod_struct Try.underlying34 h
  have e5 : Try.prog.cellsOf 34 = 5 := by kernel_rfl
  have e1 : Try.prog.cellsOf 3 = 1 := by kernel_rfl
  rw [e5] at hl
  match xs, hxl, cs, hl with
  | [y0, y1, y2, y3, y4], _, [v0, v1, v2, v3, v4], _ =>
    have g0 := hf 0 _ rfl
    have g1 := hf 1 _ rfl
    have g2 := hf 2 _ rfl
    have g3 := hf 3 _ rfl
    have g4 := hf 4 _ rfl
    simp [e1] at g0 g1 g2 g3 g4
    obtain ⟨m0, h0, _, k0⟩ := DataW.trod_int Try.underlying3 g0
    obtain ⟨m1, h1, _, k1⟩ := DataW.trod_int Try.underlying3 g1
    obtain ⟨m2, h2, _, k2⟩ := DataW.trod_int Try.underlying3 g2
    obtain ⟨m3, h3, _, k3⟩ := DataW.trod_int Try.underlying3 g3
    obtain ⟨m4, h4, _, k4⟩ := DataW.trod_int Try.underlying3 g4
    simp at h0 h1 h2 h3 h4
    subst h0 h1 h2 h3 h4
    exact ⟨⟨m0, m1, m2, m3, m4⟩, ⟨k0, k1, k2, k3, k4⟩, rfl⟩

/-- A slice of links that came in. -/
theorem open_links {H : Type} {enc : TypeId × Value → H} {w : World} {base : Nat} {sp : Nat → Bool} {hd : Bool} {fuel : Nat} {a : Option Addr} {len cap : Nat} {x : DataW H × List MemPlace}
    (h : DataW.trod enc Try.prog w base sp hd fuel 22 [.slice a len cap] = some x) : ∃ ls : List Lk, SlL w a len ls ∧ len ≤ cap ∧ cap ≤ maxLen ∧ ∀ l ∈ ls, l.wf := by
  rcases open_slice Try.underlying22 h with ⟨hcs, _⟩ | ⟨y, l, c, m, n, D, Pl, hcs, hb, hl, hm, hmm, _, hx⟩
  · simp at hcs
    obtain ⟨rfl, rfl, rfl⟩ := hcs
    exact ⟨[], SlL.nil _ _, Nat.le_refl _, Nat.zero_le _, by simp⟩
  · simp at hcs
    obtain ⟨rfl, rfl, rfl⟩ := hcs
    have hlm : len ≤ m := by rw [hmm]; split <;> omega
    have e5 : Try.prog.cellsOf 34 = 5 := by kernel_rfl
    have each : ∀ i, i < len → ∃ l : Lk, l.wf ∧ w.cell? (y.add (i * 5)) = some (.int .i64 l.fr) ∧ w.cell? (y.add (i * 5 + 1)) = some (.int .i64 l.to) ∧ w.cell? (y.add (i * 5 + 2)) = some (.int .i64 l.num) ∧
        w.cell? (y.add (i * 5 + 3)) = some (.int .i64 l.den) ∧ w.cell? (y.add (i * 5 + 4)) = some (.int .i64 l.add) := by
      intro i hi
      obtain ⟨cs', h1, h2⟩ := hx i (by omega)
      rw [e5] at h1
      obtain ⟨_, _, hcell⟩ := World.cells?_some h1
      obtain ⟨l, hw, rfl⟩ := open_link h2
      have c0 := hcell 0 (by omega)
      have c1 := hcell 1 (by omega)
      have c2 := hcell 2 (by omega)
      have c3 := hcell 3 (by omega)
      have c4 := hcell 4 (by omega)
      rw [add_add] at c0 c1 c2 c3 c4
      exact ⟨l, hw, by simpa using c0, by simpa using c1, by simpa using c2, by simpa using c3, by simpa using c4⟩
    obtain ⟨f, hf⟩ := choose_lt each
    refine ⟨(List.range len).map f, ⟨by simp, fun hn => ?_⟩, hl, hm, ?_⟩
    · obtain ⟨_, h0, _⟩ := hf 0 hn
      simp only [Nat.zero_mul] at h0
      have hs : y.spot = none := by simpa [Addr.add] using spot_none h0
      have hbl : y.block < w.heap.size := by simpa [Addr.add] using blk_lt h0
      have e : ∀ j, y.add j = ⟨y.block, y.off + j, none⟩ := fun j => by
        unfold Addr.add
        split
        · rename_i h; subst h; rw [← hs]; rfl
        · rfl
      refine ⟨y.block, y.off, by rw [← hs], hbl, fun j hj => ?_⟩
      obtain ⟨_, q0, q1, q2, q3, q4⟩ := hf j hj
      rw [e] at q0 q1 q2 q3 q4
      have ej : ((List.range len).map f).getD j Lk.z = f j := by simp [List.getD, hj]
      rw [ej]
      exact ⟨q0, q1, q2, q3, q4⟩
    · intro l hl
      obtain ⟨i, hi, rfl⟩ := List.mem_map.1 hl
      exact (hf i (List.mem_range.1 hi)).1
end Go.Proofs.Ytnihkdmdbmnniaa
