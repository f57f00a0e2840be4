/- The walk of MetersTogether, a list not empty. -/
import Derived.Test.YtikoabajlibheaaMetersTogetherP
set_option linter.unusedSimpArgs false
namespace Go.Proofs.Ytikoabajlibheaa
open Go.RowKit

set_option maxHeartbeats 2000000 in
set_option maxRecDepth 100000 in
theorem metersTogether_walk10 (A B : Option Addr) (n c m d : Nat) (xs ys : List Int) (w : World) (hs : Sl w A n xs) (hnA : A = none → n = 0 ∧ c = 0) (ht : Sl w B m ys) (hnB : B = none → m = 0 ∧ d = 0) (hn : n ≤ 150) (hm : m ≤ 150) (hN : ¬ n + m = 0) (hab : pk xs < pk ys) :
    Calls Try.prog 4 #[.slice A n c, .slice B m d] w fun e w' => e = .returned (.bool true) ∧ Grew w w' := by
  have HS := Lib.hid hs
  have HT := Lib.hid ht
  have HA := Lib.hid hnA
  have HB := Lib.hid hnB
  clear hs ht hnA hnB
  obtain ⟨i0, hi, hz0, hz1, hz2⟩ := info_parts Try.info3
  have HNN := Lib.hid hN
  clear hN
  go_enter Try.func4, Try.ntmps4
  go_wp2_with fail
  refine (sane _).mono ?_
  rintro e w1 ⟨rfl, g1⟩
  go_wp2_with (first | (at_builtin; refine wpList_append_sl _ rfl (.tmp 32) (.tmp 33) 22 rfl w1.heap.size 3 i0 Try.underlying22 hi hz0 hz1 hz2 _ _ _ rfl (own_empty w1 3) A n c xs rfl (HS.out.grew (g1.alloc _)) HA.out (by omega) (by simp) ?_; intro v2 w2 hown2 hgrow2; have g2 := Lib.hid (grew_own ((Grew.refl w1).alloc (.cells #[] 3)) (own_empty w1 3) hgrow2)) | (at_builtin; refine wpList_append_sl _ rfl (.tmp 34) (.tmp 35) 22 rfl w1.heap.size 3 i0 Try.underlying22 hi hz0 hz1 hz2 _ _ _ rfl hown2 B m d ys rfl (HT.out.grew (g1.trans g2.out)) HB.out (by omega) g2.out.size ?_; intro v3 w3 hown3 hgrow3; have g3 := Lib.hid (grew_own g2.out hown2 hgrow3)) | (at_builtin; refine wpList_append_sl _ rfl (.tmp 37) (.tmp 38) 22 rfl w3.heap.size 3 i0 Try.underlying22 hi hz0 hz1 hz2 _ _ _ rfl (own_empty w3 3) B m d ys rfl (HT.out.grew (g1.trans (g3.out.alloc _))) HB.out (by omega) (by simp) ?_; intro v4 w4 hown4 hgrow4; have g4 := Lib.hid (grew_own ((Grew.refl w3).alloc (.cells #[] 3)) (own_empty w3 3) hgrow4)) | (at_builtin; refine wpList_append_sl _ rfl (.tmp 39) (.tmp 40) 22 rfl w3.heap.size 3 i0 Try.underlying22 hi hz0 hz1 hz2 _ _ _ rfl hown4 A n c xs rfl (HS.out.grew (g1.trans (g3.out.trans g4.out))) HA.out (by omega) g4.out.size ?_; intro v5 w5 hown5 hgrow5; have g5 := Lib.hid (grew_own g4.out hown4 hgrow5)))
  obtain ⟨A3, c3, hv3, _, sl3⟩ := own_sl (xs := xs ++ ys) (by simpa using hown3)
  obtain ⟨A5, c5, hv5, _, sl5⟩ := own_sl (xs := ys ++ xs) (by simpa using hown5)
  rw [hv3, hv5]
  have S3 := Lib.hid sl3
  have S5 := Lib.hid sl5
  clear sl3 sl5 hown2 hown3 hown4 hown5 hgrow2 hgrow3 hgrow4 hgrow5 hv3 hv5
  have l1 : xs.length = n := HS.out.1
  have l2 : ys.length = m := HT.out.1
  have HE1 := Lib.hid (enV_small2 (xs := xs) (by omega))
  have HE2 := Lib.hid (enV_small2 (xs := ys) (by omega))
  have HE3 := Lib.hid (enV_small2 (xs := xs ++ ys) (by simp; omega))
  have HE4 := Lib.hid (enV_small2 (xs := ys ++ xs) (by simp; omega))
  rw [en_app] at HE3
  rw [en_app, Int.add_comm] at HE4
  have k1 := en_le xs
  have k2 := en_le ys
  rw [l1] at k1
  rw [l2] at k2
  have k3 : en xs ≤ 150 * 70368744177664 := by omega
  have k4 : en ys ≤ 150 * 70368744177664 := by omega
  have k5 := k1.1
  have k6 := k2.1
  clear k1 k2
  have L1 := Lib.hid l1
  have L2 := Lib.hid l2
  clear l1 l2
  have gA := Lib.hid (g3.out.trans g5.out)
  go_wp2_with fail
  refine (energyE _ _ _ _ _ (HS.out.grew (g1.trans gA.out))).mono ?_
  rintro e w6 ⟨rfl, rfl⟩
  rw [HE1.out]
  go_wp2_with fail
  refine (energyE _ _ _ _ _ (HT.out.grew (g1.trans gA.out))).mono ?_
  rintro e w6 ⟨rfl, rfl⟩
  rw [HE2.out]
  go_wp2_with fail
  refine (energyE _ _ _ _ _ (S3.out.grew g5.out)).mono ?_
  rintro e w6 ⟨rfl, rfl⟩
  rw [HE3.out]
  go_wp2_with fail
  refine (energyE _ _ _ _ _ S5.out).mono ?_
  rintro e w6 ⟨rfl, rfl⟩
  rw [HE4.out]
  have hpl := pk_le (xs ++ ys)
  have QF := Lib.hid (quiet_iff (xs ++ ys))
  rw [en_app] at QF
  have MF := Lib.hid (met_all (xs ++ ys))
  have BF := Lib.hid (en_bound (xs ++ ys) (pk (xs ++ ys)) (fun x hx => sz_mem _ x hx) hpl.1)
  rw [en_app] at BF
  have ZF := Lib.hid (fun x hx => sz_mem (xs ++ ys) x hx)
  have HP2 := Lib.hid (pk_comm xs ys)
  have HP0 := Lib.hid (show pk (xs ++ ys) = pk (xs ++ ys) from rfl)
  have hmax : (pk (xs ++ ys) != pk ys) = false := by rw [pk_app]; unfold mx; simp; omega
  have HLL := Lib.hid (show (xs ++ ys).length = n + m by rw [List.length_append, L1.out, L2.out])
  obtain ⟨zs, hzs⟩ : ∃ zs, zs = xs ++ ys := ⟨_, rfl⟩
  rw [← hzs] at S3 hpl QF MF BF ZF HP2 HP0 hmax HLL
  clear hzs
  go_wp2_with fail
  refine (peak _ _ _ _ _ (S3.out.grew g5.out) (by omega)).mono ?_
  rintro e w6 ⟨rfl, g6⟩
  have kk0 : 0 ≤ en xs + en ys := by omega
  generalize en xs + en ys = EN at *
  clear k3 k4 k5 k6
  obtain ⟨p0, p1⟩ := hpl
  go_wp2_with fail
  refine (peak _ _ _ _ _ (HS.out.grew (g1.trans (gA.out.trans g6))) (by omega)).mono ?_
  rintro e w7 ⟨rfl, g7⟩
  go_wp2_with fail
  refine (peak _ _ _ _ _ (HT.out.grew (g1.trans (gA.out.trans (g6.trans g7)))) (by omega)).mono ?_
  rintro e w8 ⟨rfl, g8⟩
  go_wp2_with fail
  refine (peak _ _ _ _ _ (S5.out.grew (g6.trans (g7.trans g8))) (by omega)).mono ?_
  rintro e w9 ⟨rfl, g9⟩
  rw [HP2.out]
  have SZ := Lib.hid (S3.out.grew (g5.out.trans (g6.trans (g7.trans (g8.trans g9)))))
  have GG := Lib.hid (g1.trans (gA.out.trans (g6.trans (g7.trans (g8.trans g9)))))
  clear g6 g7 g8 g9 HP2 hmax hab
  generalize pk zs = p at *
  have hN := HNN.out
  have hzn : zs ≠ [] := fun h => hN (by rw [← HLL.out, h]; rfl)
  have M0 : Hid ((false || metB p zs) = true) := by have := MF.out; cases zs with | nil => exact absurd rfl hzn | cons a l => simpa [Hid] using this
  have hNb : (((n : Int) + (m : Int)) == 0) = false := by simp; omega
  clear hzn
  obtain ⟨b0, hb0⟩ : ∃ b0 : Bool, b0 = false := ⟨_, rfl⟩
  have HB0 := Lib.hid hb0
  rw [← hb0] at M0
  clear hb0
  go_wp2_with fail
  go_loop [16, 17, 112] (fun q mt i => ∃ k : Nat, k ≤ n + m ∧ i = .int .i64 k ∧ q = .bool (quietB (zs.take k)) ∧ mt = .bool (b0 || metB p (zs.take k))) (fun _ _ i => n + m - (intOf i).toNat)
  case atStart => exact ⟨0, Nat.zero_le _, rfl, rfl, by rw [HB0.out]; rfl⟩
  case round =>
    obtain ⟨k, hk, rfl, rfl, rfl⟩ := hrel
    by_cases hlt : k < n + m
    · obtain ⟨b, off, hA3, hb, hcell⟩ := SZ.out.2 (by omega)
      have hck := hcell k hlt
      rw [hA3]
      clear hcell hA3
      have hkl : k < zs.length := by rw [HLL.out]; exact hlt
      have HQ := Lib.hid (quietB_snoc (zs.take k) (zs.getD k 0))
      have HM := Lib.hid (metB_snoc p (zs.take k) (zs.getD k 0))
      rw [← take_snoc zs k hkl] at HQ HM
      have hzx := ZF.out (zs.getD k 0) (by simp [List.getD, hkl])
      have hcl := clip_le (zs.getD k 0)
      have hm1 : clip (zs.getD k 0) ≤ p ∧ -clip (zs.getD k 0) ≤ p := by unfold sz mx at hzx; split at hzx <;> omega
      obtain ⟨hm1, hm2⟩ := hm1
      clear hzx hkl
      generalize quietB (zs.take k) = q at *
      generalize hmt : (b0 || metB p (zs.take k)) = mt at *
      have HMT := Lib.hid hmt
      clear hmt
      generalize zs.getD k 0 = x at *
      have HQ2 : Hid (quietB (zs.take (k + 1)) = (q && (decide (0 ≤ clip x) && decide (clip x < 256)))) := HQ.out
      have HM2 : Hid ((b0 || metB p (zs.take (k + 1))) = (mt || ((clip x == p) || (-clip x == p)))) := by rw [HM.out, ← HMT.out]; simp [Hid, Bool.or_assoc]
      clear HQ HM HMT
      generalize hy0 : clip x = y at *
      have HY := Lib.hid hy0
      clear hy0
      have hq : (q = false ∨ (q = true ∧ y < 0)) ∨ (q = true ∧ 0 ≤ y) := by cases q <;> simp <;> omega
      have hmm : (mt = true ∨ (mt = false ∧ (y == p) = true)) ∨ (mt = false ∧ (y == p) = false) := by cases mt <;> simp <;> omega
      rcases hq with (rfl | ⟨rfl, hy⟩) | ⟨rfl, hy⟩ <;> rcases hmm with (rfl | ⟨rfl, he⟩) | ⟨rfl, he⟩
      all_goals
        go_wp2_with (go_at_call 18; refine (rclipY _ _ _ HY).mono ?_; rintro e w' ⟨rfl, rfl⟩)
        go_round
        case rel => exact ⟨k + 1, by omega, by go_num, by rw [HQ2.out]; first | rfl | (simp; omega), by rw [HM2.out]; first | rfl | simp [*]⟩
        case measure => simp [intOf]; omega
    · have hzt : zs.take k = zs := List.take_of_length_le (by rw [HLL.out]; omega)
      rw [hzt, QF.out, M0.out]
      clear hzt
      have BB := BF.out
      rw [HLL.out] at BB
      have hm0 : 0 ≤ (p + 255) / 256 := by omega
      have hm1 : (p + 255) / 256 ≤ 8388608 := by omega
      have hl1 : 0 ≤ ((n : Int) + (m : Int)) * ((p + 255) / 256) := Int.mul_nonneg (by omega) hm0
      have hl2 : ((n : Int) + (m : Int)) * ((p + 255) / 256) ≤ 300 * 8388608 := Int.mul_le_mul (by omega) hm1 hm0 (by omega)
      have hl3 : 0 ≤ ((n : Int) + (m : Int)) * ((p + 255) / 256) * ((p + 255) / 256) := Int.mul_nonneg hl1 hm0
      have hl4 : ((n : Int) + (m : Int)) * ((p + 255) / 256) * ((p + 255) / 256) ≤ 300 * 8388608 * 8388608 := Int.mul_le_mul hl2 hm1 hm0 (by omega)
      have hl5 : EN ≤ ((n : Int) + (m : Int)) * ((p + 255) / 256) * ((p + 255) / 256) := by rw [Int.mul_assoc]; exact_mod_cast BB
      clear BB
      go_wp2
      go_ret
      exact ⟨rfl, GG.out⟩

end Go.Proofs.Ytikoabajlibheaa
