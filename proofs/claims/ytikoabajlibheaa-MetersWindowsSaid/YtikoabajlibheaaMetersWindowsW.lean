/- The walk of MetersWindows. -/
import Derived.Test.YtikoabajlibheaaW8
namespace Go.Proofs.Ytikoabajlibheaa
open Go.RowKit

theorem enV_small' {xs : List Int} (h : xs.length ≤ 65536) : enV xs = .tuple #[.int .i64 (en xs), .int .i64 0] := by unfold enV; rw [if_pos h]

theorem winK_get (xs : List Int) (s h m k : Nat) (hk : k < m) : (winK xs s h m).getD k 0 = en ((xs.drop (k * h)).take s) := by
  simp [winK, List.getD, hk]

set_option maxHeartbeats 1000000 in
theorem metersWindows_walk (A : Option Addr) (n c : Nat) (xs : List Int) (s h : Int) (w : World) (hs : Sl w A n xs) (hc : n ≤ c) (s0 : 0 ≤ s) (s1 : s ≤ 65535) (h0 : 0 ≤ h) (h1 : h ≤ 65535) :
    Calls Try.prog 5 #[.slice A n c, .int .u16 s, .int .u16 h] w fun e w' => e = .returned (.bool true) ∧ Grew w w' := by
  have HS := Lib.hid hs
  clear hs
  by_cases hn : n ≤ 300
  · obtain ⟨sn, hsn⟩ := Int.eq_ofNat_of_zero_le (show 0 ≤ 1 + s % 300 by omega)
    obtain ⟨hn', hhn⟩ := Int.eq_ofNat_of_zero_le (show 0 ≤ 1 + h by omega)
    have b1 : 1 ≤ sn := by omega
    have b2 : sn ≤ 300 := by omega
    have b3 : 1 ≤ hn' := by omega
    have b4 : hn' ≤ 65536 := by omega
    have HSN := Lib.hid hsn
    have HHN := Lib.hid hhn
    clear hsn hhn
    have hok : okW (sn : Int) (hn' : Int) = true := decide_eq_true ⟨by omega, by omega, by omega, by omega⟩
    have hwe : Hid (winE (sn : Int) (hn' : Int) = 0) := by unfold winE; rw [if_pos hok]; rfl
    have hwx : Hid (winX xs (sn : Int) (hn' : Int) = winK xs sn hn' (cnt n sn hn')) := by unfold winX; rw [if_pos hok]; unfold winL; rw [HS.out.1]; rfl
    clear hok
    have HC := Lib.hid (fun k => cnt_iff n sn hn' k b3)
    go_enter Try.func5, Try.ntmps5
    go_wp2_with fail
    refine (sane _).mono ?_
    rintro e w1 ⟨rfl, g1⟩
    go_wp2_with fail
    rw [HSN.out, HHN.out]
    refine (windowsX _ _ _ _ _ _ _ (HS.out.grew g1) (by omega) hc).mono ?_
    rintro e w3 ⟨g3, A3, n3, c3, s3, _, rfl⟩
    rw [hwe.out]
    rw [hwx.out] at s3
    have e3 : n3 = cnt n sn hn' := by have := s3.1; rw [winK_length] at this; omega
    have S3 := Lib.hid s3
    clear s3
    have hcn := cnt_le n sn hn' b1
    have E3 := Lib.hid e3
    have b5 : n3 ≤ 300 := by omega
    clear e3
    have S0 := Lib.hid (HS.out.grew (g1.trans g3))
    go_wp2_with fail
    go_loop [11, 12] (fun k' i => ∃ k p : Nat, Hid (p = k * hn') ∧ p ≤ n + hn' ∧ k ≤ n3 ∧ i = .int .i64 p ∧ k' = .int .i64 k) (fun _ i => n + hn' + 1 - (intOf i).toNat)
    case atStart => exact ⟨0, 0, by simp [Hid], by omega, Nat.zero_le _, rfl, rfl⟩
    case round =>
      obtain ⟨k, p, hp, hpn, hk, rfl, rfl⟩ := hrel
      by_cases hlt : p + sn ≤ n
      · have hklt : k < n3 := by rw [E3.out]; exact (HC.out k).2 (by rw [← hp.out]; exact hlt)
        obtain ⟨b, off, hA, hb, hcell⟩ := S0.out.2 (by omega)
        have hsub := Lib.hid ((hA ▸ S0.out).cut p sn hlt)
        obtain ⟨b3', off3, hA3, hb3, hcell3⟩ := S3.out.2 (by omega)
        have hck := hcell3 k hklt
        rw [winK_get xs sn hn' _ k (by rw [← E3.out]; exact hklt), ← hp.out] at hck
        have HE := Lib.hid (enV_small' (xs := (xs.drop p).take sn) (by rw [hsub.out.1]; omega))
        rw [hA, hA3]
        clear hcell hcell3 hA hA3
        generalize en ((xs.drop p).take sn) = y at *
        go_wp2_with fail
        refine (energyE _ _ _ _ _ hsub.out).mono ?_
        rintro e w5 ⟨rfl, rfl⟩
        rw [HE.out]
        go_wp2
        go_round
        case rel => exact ⟨k + 1, p + hn', by rw [hp.out, Nat.succ_mul]; rfl, by omega, by omega, by go_num, by go_num⟩
        case measure => simp [intOf]; omega
      · have hkc : ¬ k < n3 := fun h => hlt (by rw [hp.out]; rw [E3.out] at h; exact (HC.out k).1 h)
        obtain rfl : k = n3 := by omega
        go_wp2
        go_ret
        exact ⟨rfl, g1.trans g3⟩
  · go_enter Try.func5, Try.ntmps5
    go_wp2_with fail
    refine (sane _).mono ?_
    rintro e w1 ⟨rfl, g1⟩
    go_wp2
    go_ret
    exact ⟨rfl, g1⟩

end Go.Proofs.Ytikoabajlibheaa
