/- Contracts: clipping, division, Check, Same. -/
import Derived.Test.YtnihkdmdbmnniaaW4
import Derived.Deep.QuietTactic
import Derived.BigQuiet
namespace Go.Proofs.Ytnihkdmdbmnniaa
open Go.RowKit

def clip (x : Int) : Int := if x < -2147483648 then -2147483648 else if x > 2147483647 then 2147483647 else x
theorem clip_le (x : Int) : -2147483648 ≤ clip x ∧ clip x ≤ 2147483647 := by unfold clip; omega

theorem fclip (x : Int) (w : World) : Calls Try.prog 18 #[.int .i64 x] w fun e w' => e = .returned (.int .i64 (clip x)) ∧ w = w' := by
  go_enter Try.func18, Try.ntmps18
  go_wp2
  all_goals
    go_ret
    refine ⟨ret_int ?_, rfl⟩
    unfold clip
    split <;> (try split) <;> omega
theorem rclip (x : Int) (w : World) : Calls Try.prog 30 #[.int .i64 x] w fun e w' => e = .returned (.int .i64 (clip x)) ∧ w = w' := by
  go_enter Try.func30, Try.ntmps30
  go_wp2
  all_goals
    go_ret
    refine ⟨ret_int ?_, rfl⟩
    unfold clip
    split <;> (try split) <;> omega

theorem div_pos_ (a b : Int) (h : 0 ≤ a.tmod b) (hb : 1 ≤ b) : a.tdiv b = a / b := by
  have h1 := Int.tmod_def a b
  have h2 := Int.tmod_lt_of_pos a (show 0 < b by omega)
  have h3 : a = b * a.tdiv b + a.tmod b := by omega
  generalize a.tdiv b = q at *
  generalize a.tmod b = r at *
  symm
  rw [h3, Int.mul_add_ediv_left _ _ (by omega), Int.ediv_eq_zero_of_lt h (by omega)]
  omega

theorem tdiv_bd (a b : Int) (ha : -4611686018427387904 ≤ a) (ha2 : a ≤ 4611686018427387904) : -4611686018427387904 ≤ a.tdiv b ∧ a.tdiv b ≤ 4611686018427387904 := by
  have h1 := Int.natAbs_tdiv a b
  have h2 := Nat.div_le_self a.natAbs b.natAbs
  have h3 : (a.tdiv b).natAbs ≤ a.natAbs := by rw [h1]; exact h2
  omega

theorem div_neg_ (a b : Int) (h : a.tmod b < 0) (hb : 1 ≤ b) (ha : -4611686018427387904 ≤ a) (ha2 : a ≤ 4611686018427387904) : wrap64 (a.tdiv b - 1) = a / b := by
  have h1 := Int.tmod_def a b
  have h2 : -b < a.tmod b := by
    have h4 := Int.tmod_lt_of_pos (-a) (show 0 < b by omega)
    rw [Int.neg_tmod] at h4
    omega
  have h5 := tdiv_bd a b ha ha2
  rw [IntWalk.wrap64_in _ ⟨by omega, by omega⟩]
  have h3 : a = b * (a.tdiv b - 1) + (a.tmod b + b) := by rw [Int.mul_sub]; omega
  generalize a.tdiv b = q at *
  generalize a.tmod b = r at *
  symm
  rw [h3, Int.mul_add_ediv_left _ _ (by omega), Int.ediv_eq_zero_of_lt (by omega) (by omega)]
  omega

theorem down_ (a b : Int) (w : World) (ha : -4611686018427387904 ≤ a) (ha2 : a ≤ 4611686018427387904) (hb : 1 ≤ b) (hb2 : b ≤ 2147483647) :
    Calls Try.prog 28 #[.int .i64 a, .int .i64 b] w fun e w' => e = .returned (.int .i64 (a / b)) ∧ w = w' := by
  have hz : (b == 0) = false := by simp; omega
  have hbd := tdiv_bd a b ha ha2
  go_enter Try.func28, Try.ntmps28
  go_wp2
  · go_ret
    have h1 : 0 ≤ a.tmod b := by assumption
    exact ⟨ret_int (div_pos_ a b h1 hb), rfl⟩
  · go_ret
    have h1 : a.tmod b < 0 := by assumption
    have h2 := div_neg_ a b h1 hb ha ha2
    rw [IntWalk.wrap64_in _ ⟨by omega, by omega⟩] at h2
    exact ⟨ret_int h2, rfl⟩

theorem check_ (n : Int) (A : Option Addr) (m c : Nat) (ls : List Lk) (w : World) (hs : SlL w A m ls) :
    Calls Try.prog 11 #[.int .i64 n, .slice A m c] w fun e w' => e = .returned (.int .i64 (ordR n ls).2) ∧ Grew w w' := by
  have HS := Lib.hid hs
  clear hs
  go_enter Try.func11, Try.ntmps11
  go_wp2_with fail
  refine (order_ _ _ _ _ _ _ HS.out).mono ?_
  rintro e w1 ⟨g1, A1, m1, c1, _, _, rfl⟩
  go_wp2
  go_ret
  exact ⟨rfl, g1⟩

set_option maxHeartbeats 400000 in
theorem same_ (A B : Option Addr) (n m c d : Nat) (xs ys : List Int) (w : World) (hs : Sl w A n xs) (ht : Sl w B m ys) (hn : n ≤ 9223372036854775806) :
    Calls Try.prog 15 #[.slice A n c, .slice B m d] w fun e w' => e = .returned (.bool (decide (xs = ys))) ∧ Grew w w' := by
  by_cases hnm : n = m
  · subst hnm
    have HL := Lib.hid hs.1
    have HL2 := Lib.hid ht.1
    have HS := Lib.hid hs
    have HT := Lib.hid ht
    clear hs ht
    go_enter Try.func15, Try.ntmps15
    go_wp2
    go_loopw [5] (fun i wr => ∃ k : Nat, k ≤ n ∧ i = .int .i64 k ∧ Hid (xs.take k = ys.take k) ∧ Grew w wr) (fun i _ => n - (intOf i).toNat)
    case atStart => exact ⟨0, Nat.zero_le _, rfl, rfl, Grew.refl _⟩
    case round =>
      obtain ⟨k, hk, rfl, he, hg⟩ := hrel
      by_cases hlt : k < n
      · obtain ⟨b, off, rfl, hb, hcell⟩ := (HS.out.grew hg).2 (by omega)
        have hck := hcell k hlt
        obtain ⟨b2, off2, rfl, hb2, hcell2⟩ := (HT.out.grew hg).2 (by omega)
        have hck2 := hcell2 k hlt
        clear hcell hcell2
        by_cases hxy : xs.getD k 0 = ys.getD k 0
        · have HN := Lib.hid (take_eq_snoc xs ys k n HL.out HL2.out hlt he.out hxy)
          generalize xs.getD k 0 = x at *
          subst hxy
          go_wp2
          go_quiet (fail)
          go_wp2
          go_roundw
          case rel => exact ⟨k + 1, by omega, by go_num, HN, hg.drewN _⟩
          case measure => simp [intOf]; omega
        · have HN : Hid (¬ xs = ys) := fun e => hxy (by rw [e])
          have hne : (xs.getD k 0 != ys.getD k 0) = true := bne_iff_ne.2 hxy
          clear hxy
          generalize xs.getD k 0 = x at *
          generalize ys.getD k 0 = y at *
          go_wp2
          go_quiet (fail)
          go_wp2
          go_ret
          exact ⟨by rw [decide_eq_false HN.out]; rfl, hg.drewN _⟩
      · go_wp2
        go_ret
        refine ⟨?_, hg⟩
        have e := he.out
        rw [List.take_of_length_le (by rw [HL.out]; omega), List.take_of_length_le (by rw [HL2.out]; omega)] at e
        rw [decide_eq_true e]; rfl
  · have HN : Hid (¬ xs = ys) := fun e => hnm (by rw [← hs.1, ← ht.1, e])
    have hne : ((n : Int) != (m : Int)) = true := by simp [bne]; omega
    clear hs ht hnm
    go_enter Try.func15, Try.ntmps15
    go_wp2
    go_ret
    exact ⟨by rw [decide_eq_false HN.out]; rfl, Grew.refl _⟩

end Go.Proofs.Ytnihkdmdbmnniaa
