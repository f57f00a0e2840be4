/- The walk of LinksValuesSpec. -/
import Derived.Test.YtnihkdmdbmnniaaW14
set_option linter.unusedSimpArgs false
namespace Go.Proofs.Ytnihkdmdbmnniaa
open Go.RowKit

theorem valR_len (ls : List Lk) (vs : List Int) : (valR ls vs).1.length ≤ vs.length := by
  unfold valR
  split
  · exact Nat.le_of_eq (valL_length _ _ _)
  · simp

set_option maxHeartbeats 1000000 in
theorem linksValuesSpec_walk (A : Option Addr) (m c : Nat) (ls : List Lk) (B : Option Addr) (n d : Nat) (vs : List Int) (w : World) (hs : SlL w A m ls) (ht : Sl w B n vs) :
    Calls Try.prog 5 #[.slice A m c, .slice B n d] w fun e w' => e = .returned (.bool true) ∧ Grew w w' := by
  have HS := Lib.hid hs
  have HT := Lib.hid ht
  clear hs ht
  go_enter Try.func5, Try.ntmps5
  go_wp2_with fail
  refine (sane _).mono ?_
  rintro e w1 ⟨rfl, g1⟩
  by_cases h1 : 20 < m
  · go_wp2
    go_ret
    exact ⟨rfl, g1⟩
  · by_cases h2 : 30 < n
    · go_wp2
      go_ret
      exact ⟨rfl, g1⟩
    · go_wp2_with fail
      refine (values_ _ _ _ _ _ _ _ _ _ (HS.out.grew g1) (HT.out.grew g1)).mono ?_
      rintro e w2 ⟨g2, A2, m2, c2, s2, hc2, rfl⟩
      have S2 := Lib.hid s2
      clear s2
      go_wp2_with fail
      refine (rvalues_ _ _ _ _ _ _ _ _ _ (HS.out.grew (g1.trans g2)) (HT.out.grew (g1.trans g2))).mono ?_
      rintro e w3 ⟨g3, A3, m3, c3, s3, hc3, rfl⟩
      have S3 := Lib.hid s3
      clear s3
      go_wp2_with fail
      refine (same_ _ _ _ _ _ _ _ _ _ (S2.out.grew g3) S3.out (by have := S2.out.1; have := valR_len ls vs; have := HT.out.1; omega)).mono ?_
      rintro e w4 ⟨rfl, g4⟩
      rw [decide_eq_true rfl]
      go_wp2
      go_ret
      exact ⟨by simp, ((g1.trans g2).trans g3).trans g4⟩
end Go.Proofs.Ytnihkdmdbmnniaa
