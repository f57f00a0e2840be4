/- The walk of MetersSpec. -/
import Derived.Test.YtikoabajlibheaaW8
namespace Go.Proofs.Ytikoabajlibheaa
open Go.RowKit

set_option maxHeartbeats 1000000 in
theorem metersSpec_walk (A : Option Addr) (n c : Nat) (xs : List Int) (s h f : Int) (w : World) (hs : Sl w A n xs) (hc : n ≤ c) :
    Calls Try.prog 3 #[.slice A n c, .int .i64 s, .int .i64 h, .int .i64 f] w fun e w' => e = .returned (.bool true) ∧ Grew w w' := by
  have HS := Lib.hid hs
  clear hs
  by_cases hn : n ≤ 300
  · go_enter Try.func3, Try.ntmps3
    go_wp2_with fail
    refine (sane _).mono ?_
    rintro e w1 ⟨rfl, g1⟩
    go_wp2_with fail
    refine (energyE _ _ _ _ _ (HS.out.grew g1)).mono ?_
    rintro e w2 ⟨rfl, rfl⟩
    have HE : Hid (enV xs = .tuple #[.int .i64 (en xs), .int .i64 0]) := by unfold enV; rw [if_pos (by rw [HS.out.1]; omega)]; rfl
    rw [HE.out]
    go_wp2_with fail
    refine (renergyE _ _ _ _ _ (HS.out.grew g1)).mono ?_
    rintro e w2 ⟨rfl, rfl⟩
    rw [HE.out]
    go_wp2_with fail
    refine (windowsX _ _ _ _ _ _ _ (HS.out.grew g1) (by omega) hc).mono ?_
    rintro e w3 ⟨g3, A3, n3, c3, s3, _, rfl⟩
    have S3 := Lib.hid s3
    clear s3
    go_wp2_with fail
    refine (rwindowsX _ _ _ _ _ _ _ (HS.out.grew (g1.trans g3)) (by omega) hc).mono ?_
    rintro e w4 ⟨g4, A4, n4, c4, s4, _, rfl⟩
    have S4 := Lib.hid s4
    clear s4
    go_wp2_with fail
    refine (holdXX _ _ _ _ _ _ (HS.out.grew (g1.trans (g3.trans g4))) (by omega)).mono ?_
    rintro e w5 ⟨g5, A5, n5, c5, s5, _, rfl⟩
    have S5 := Lib.hid s5
    clear s5
    go_wp2_with fail
    refine (rholdX _ _ _ _ _ _ (HS.out.grew (g1.trans (g3.trans (g4.trans g5)))) (by omega)).mono ?_
    rintro e w6 ⟨g6, A6, n6, c6, s6, _, rfl⟩
    have S6 := Lib.hid s6
    clear s6
    have l3 : n3 ≤ 300 := by have := winX_length xs s h; rw [S3.out.1, HS.out.1] at this; omega
    have l5 : n5 ≤ 300 := by have := holdX_length xs f; rw [S5.out.1, HS.out.1] at this; omega
    go_wp2_with fail
    refine (peak _ _ _ _ _ (HS.out.grew (g1.trans (g3.trans (g4.trans (g5.trans g6))))) (by omega)).mono ?_
    rintro e w7 ⟨rfl, g7⟩
    go_wp2_with fail
    refine (rpeak _ _ _ _ _ (HS.out.grew (g1.trans (g3.trans (g4.trans (g5.trans (g6.trans g7)))))) (by omega)).mono ?_
    rintro e w8 ⟨rfl, rfl⟩
    go_wp2_with fail
    refine (same_ _ _ _ _ _ _ _ _ _ (S3.out.grew (g4.trans (g5.trans (g6.trans g7)))) (S4.out.grew (g5.trans (g6.trans g7))) (by omega)).mono ?_
    rintro e w9 ⟨rfl, g9⟩
    rw [decide_eq_true rfl]
    go_wp2_with fail
    refine (same_ _ _ _ _ _ _ _ _ _ (S5.out.grew (g6.trans (g7.trans g9))) (S6.out.grew (g7.trans g9)) (by omega)).mono ?_
    rintro e w10 ⟨rfl, g10⟩
    rw [decide_eq_true rfl]
    go_wp2
    go_ret
    exact ⟨rfl, g1.trans (g3.trans (g4.trans (g5.trans (g6.trans (g7.trans (g9.trans g10))))))⟩
  · go_enter Try.func3, Try.ntmps3
    go_wp2_with fail
    refine (sane _).mono ?_
    rintro e w1 ⟨rfl, g1⟩
    go_wp2
    go_ret
    exact ⟨rfl, g1⟩

end Go.Proofs.Ytikoabajlibheaa
