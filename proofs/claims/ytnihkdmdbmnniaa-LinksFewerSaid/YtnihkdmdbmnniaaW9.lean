/- ref.Down. -/
import Derived.Test.YtnihkdmdbmnniaaW8
import Derived.Test.YtnihkdmdbmnniaaPlain4
set_option linter.unusedSimpArgs false
namespace Go.Proofs.Ytnihkdmdbmnniaa
open Go.RowKit

theorem Try.info4 : (Try.prog.info? 4).map (fun i => (i.zero, i.size, i.bytes)) = some (some (.bool false), 1, 1) := by kernel_rfl

theorem tdiv_mul_bd (a b : Int) (ha : -4611686018427387904 ≤ a) (ha2 : a ≤ 4611686018427387904) : -9223372036854775808 ≤ a.tdiv b * b ∧ a.tdiv b * b ≤ 9223372036854775807 := by
  have h : (a.tdiv b * b).natAbs ≤ a.natAbs := by
    rw [Int.natAbs_mul, Int.natAbs_tdiv]
    exact Nat.div_mul_le_self _ _
  omega

theorem rdown_ (a b : Int) (w : World) (ha : -4611686018427387904 ≤ a) (ha2 : a ≤ 4611686018427387904) (hb : 1 ≤ b) (hb2 : b ≤ 2147483647) :
    Calls Try.prog 19 #[.int .i64 a, .int .i64 b] w fun e w' => e = .returned (.int .i64 (a / b)) ∧ w = w' := by
  have hz : (b == 0) = false := by simp; omega
  have hbd := tdiv_bd a b ha ha2
  have hmb := tdiv_mul_bd a b ha ha2
  have hmod := Int.tmod_def a b
  rw [Int.mul_comm] at hmod
  have HM := Lib.hid hmod
  clear hmod
  go_enter Try.func19, Try.ntmps19
  by_cases h1 : a.tdiv b * b > a
  · go_wp2
    go_ret
    have h2 := div_neg_ a b (by have := HM.out; omega) hb ha ha2
    rw [IntWalk.wrap64_in _ ⟨by omega, by omega⟩] at h2
    exact ⟨ret_int h2, rfl⟩
  · go_wp2
    go_ret
    exact ⟨ret_int (div_pos_ a b (by have := HM.out; omega) hb), rfl⟩
end Go.Proofs.Ytnihkdmdbmnniaa
