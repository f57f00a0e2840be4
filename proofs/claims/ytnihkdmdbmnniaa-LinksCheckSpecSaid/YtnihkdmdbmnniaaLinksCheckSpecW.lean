/- The walk of LinksCheckSpec. -/
import Derived.Test.YtnihkdmdbmnniaaW12
set_option linter.unusedSimpArgs false
namespace Go.Proofs.Ytnihkdmdbmnniaa
open Go.RowKit

set_option maxHeartbeats 1000000 in
theorem linksCheckSpec_walk (n : Int) (A : Option Addr) (m c : Nat) (ls : List Lk) (w : World) (hs : SlL w A m ls) :
    Calls Try.prog 3 #[.int .i64 n, .slice A m c] w fun e w' => e = .returned (.bool true) ∧ Grew w w' := by
  have HS := Lib.hid hs
  clear hs
  go_enter Try.func3, Try.ntmps3
  go_wp2_with fail
  refine (sane _).mono ?_
  rintro e w1 ⟨rfl, g1⟩
  by_cases h1 : 20 < m ∧ m ≤ 256
  · obtain ⟨h1, h2⟩ := h1
    go_wp2
    go_ret
    exact ⟨rfl, g1⟩
  · by_cases h2 : 20 < m
    · have h3 : 256 < m := by omega
      clear h1
      go_wp2_with fail
      refine (check_ _ _ _ _ _ _ (HS.out.grew g1)).mono ?_
      rintro e w2 ⟨rfl, g2⟩
      go_wp2_with fail
      refine (rcheck_ _ _ _ _ _ _ (HS.out.grew (g1.trans g2))).mono ?_
      rintro e w3 ⟨rfl, g3⟩
      go_wp2
      go_ret
      exact ⟨by simp, (g1.trans g2).trans g3⟩
    · clear h1
      go_wp2_with fail
      refine (check_ _ _ _ _ _ _ (HS.out.grew g1)).mono ?_
      rintro e w2 ⟨rfl, g2⟩
      go_wp2_with fail
      refine (rcheck_ _ _ _ _ _ _ (HS.out.grew (g1.trans g2))).mono ?_
      rintro e w3 ⟨rfl, g3⟩
      go_wp2
      go_ret
      exact ⟨by simp, (g1.trans g2).trans g3⟩
end Go.Proofs.Ytnihkdmdbmnniaa
