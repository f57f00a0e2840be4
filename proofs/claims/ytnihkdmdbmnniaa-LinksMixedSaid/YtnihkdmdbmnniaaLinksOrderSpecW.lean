/- The walk of LinksOrderSpec. -/
import Derived.Test.YtnihkdmdbmnniaaW13
set_option linter.unusedSimpArgs false
namespace Go.Proofs.Ytnihkdmdbmnniaa
open Go.RowKit

theorem ordR_len (n : Int) (ls : List Lk) : (ordR n ls).1.length ≤ 256 := by
  by_cases h : (ordR n ls).2 = 0
  · have ⟨o1, o2, _, _, o5⟩ := ordR_ok h
    rw [(ordK_mem ls _ _ _ o5).1]
    omega
  · rw [ordR_fst h]; simp

set_option maxHeartbeats 1000000 in
theorem linksOrderSpec_walk (n : Int) (A : Option Addr) (m c : Nat) (ls : List Lk) (w : World) (hs : SlL w A m ls) :
    Calls Try.prog 4 #[.int .i64 n, .slice A m c] w fun e w' => e = .returned (.bool true) ∧ Grew w w' := by
  have HS := Lib.hid hs
  clear hs
  go_enter Try.func4, Try.ntmps4
  go_wp2_with fail
  refine (sane _).mono ?_
  rintro e w1 ⟨rfl, g1⟩
  by_cases h1 : 20 < m
  · go_wp2
    go_ret
    exact ⟨rfl, g1⟩
  · go_wp2_with fail
    refine (order_ _ _ _ _ _ _ (HS.out.grew g1)).mono ?_
    rintro e w2 ⟨g2, A2, m2, c2, s2, hc2, rfl⟩
    have S2 := Lib.hid s2
    clear s2
    go_wp2_with fail
    refine (rorder_ _ _ _ _ _ _ (HS.out.grew (g1.trans g2))).mono ?_
    rintro e w3 ⟨g3, A3, m3, c3, s3, hc3, rfl⟩
    have S3 := Lib.hid s3
    clear s3
    go_wp2_with fail
    refine (same_ _ _ _ _ _ _ _ _ _ (S2.out.grew g3) S3.out (by have := S2.out.1; have := ordR_len n ls; omega)).mono ?_
    rintro e w4 ⟨rfl, g4⟩
    rw [decide_eq_true rfl]
    go_wp2
    go_ret
    exact ⟨by simp, ((g1.trans g2).trans g3).trans g4⟩
end Go.Proofs.Ytnihkdmdbmnniaa
