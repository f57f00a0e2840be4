/- The walk of MetersClipped. -/
import Derived.Test.YtikoabajlibheaaW8
namespace Go.Proofs.Ytikoabajlibheaa
open Go.RowKit

theorem clip_clip (x : Int) : clip (clip x) = clip x := by have := clip_le x; generalize clip x = y at *; unfold clip; split <;> (try split) <;> omega
theorem sz_clip (x : Int) : sz (clip x) = sz x := by unfold sz; rw [clip_clip]
theorem q8_clip (x : Int) : q8 (clip x) = q8 x := by unfold q8; rw [clip_clip]
theorem en_clip (xs : List Int) : en (xs.map clip) = en xs := by
  unfold en; rw [List.map_map]; congr 1; apply List.map_congr_left; intro x _; simp [q8_clip]
theorem pk_clip (xs : List Int) : pk (xs.map clip) = pk xs := by
  unfold pk; rw [List.map_map]; congr 1; apply List.map_congr_left; intro x _; simp [sz_clip]
theorem winX_clip (xs : List Int) (s h : Int) : winX (xs.map clip) s h = winX xs s h := by
  unfold winX winL
  split
  · rw [List.length_map]
    unfold winK
    apply List.map_congr_left
    intro j _
    rw [← List.map_drop, ← List.map_take, en_clip]
  · rfl
theorem holdL_clip (f : Int) : ∀ (xs : List Int) (h : Int), holdL f h (xs.map clip) = holdL f h xs
  | [], _ => rfl
  | x :: xs, h => by
    have e : hold1 f h (clip x) = hold1 f h x := by unfold hold1; rw [sz_clip]
    simp only [List.map_cons, holdL, e, holdL_clip f xs]
theorem holdX_clip (xs : List Int) (f : Int) : holdX (xs.map clip) f = holdX xs f := by
  unfold holdX; rw [holdL_clip]

theorem enV_small {xs : List Int} (h : xs.length ≤ 65536) : enV xs = .tuple #[.int .i64 (en xs), .int .i64 0] := by unfold enV; rw [if_pos h]

set_option maxHeartbeats 1000000 in
theorem metersClipped_walk (A : Option Addr) (n c : Nat) (xs : List Int) (s h f : Int) (w : World) (hs : Sl w A n xs) (hc : n ≤ c) (s0 : 0 ≤ s) (s1 : s ≤ 65535) (h0 : 0 ≤ h) (h1 : h ≤ 65535) (f0 : 0 ≤ f) (f1 : f ≤ 65535) :
    Calls Try.prog 7 #[.slice A n c, .int .u16 s, .int .u16 h, .int .u16 f] w fun e w' => e = .returned (.bool true) ∧ Grew w w' := by
  have HS := Lib.hid hs
  clear hs
  by_cases hn : n ≤ 300
  · obtain ⟨i0, hi, hz0, hz1, hz2⟩ := info_parts Try.info3
    have hwe : Hid (winE (1 + s) (1 + h) = 0) := by unfold winE okW; rw [if_pos (decide_eq_true ⟨by omega, by omega, by omega, by omega⟩)]; rfl
    have hhe : Hid (holdE f = 0) := by unfold holdE; rw [if_pos ⟨by omega, by omega⟩]; rfl
    go_enter Try.func7, Try.ntmps7
    go_wp2_with fail
    refine (sane _).mono ?_
    rintro e w1 ⟨rfl, g1⟩
    go_wp2_with fail
    go_loopw [9, 31] (fun v i wr => ∃ k : Nat, k ≤ n ∧ i = .int .i64 k ∧
      wr.ownsRow w1.heap.size 3 1 v k (((xs.take k).map clip).map (Value.int .i64)) ∧ Grew w1 wr) (fun _ i _ => n - (intOf i).toNat)
    case atStart => exact ⟨0, Nat.zero_le _, rfl, ⟨rfl, .inl ⟨rfl, rfl⟩⟩, Grew.refl _⟩
    case round =>
      obtain ⟨k, hk, rfl, hown, hg⟩ := hrel
      by_cases hlt : k < n
      · obtain ⟨b, off, hA, hb, hcell⟩ := (HS.out.grew (g1.trans hg)).2 (by omega)
        rw [hA]
        have hck := hcell k hlt
        have HK : Hid ((xs.take (k + 1)).map clip = (xs.take k).map clip ++ [clip (xs.getD k 0)]) := by
          rw [take_snoc xs k (by rw [HS.out.1]; exact hlt)]; simp [Hid]
        clear hcell
        generalize xs.getD k 0 = x at *
        have HOWN := Lib.hid hown
        clear hown
        go_wp2_with (first | (go_at_call 18; refine (rclip _ _).mono ?_; rintro e w' ⟨rfl, rfl⟩) | (at_builtin; refine wpList_append_own _ rfl _ _ 22 rfl w1.heap.size 3 i0 (.int .i64 0) 1 8 Try.underlying22 hi hz0 hz1 hz2 rfl (by decide) _ _ _ rfl (HOWN.out.alloc _) ⟨wr.heap.size, 0, none⟩ 1 1 [.int .i64 _] rfl rfl (cell_one_new _ _ _) (by simp [Value.oneCell']) (by unfold maxLen; omega) (by omega) (by have := hg.size; simp; omega) ?_; intro v' w1 hown' hgrow _))
        go_roundw
        case rel => exact ⟨k + 1, by omega, by go_num, by rw [HK.out, List.map_append]; exact hown', grew_own (hg.alloc _) HOWN.out hgrow⟩
        case measure => simp [intOf]; omega
      · have hkn : k = n := by omega
        obtain ⟨A', c', rfl, hc', hsl⟩ := own_sl hown
        rw [List.take_of_length_le (by rw [HS.out.1]; omega)] at hsl
        have SL := Lib.hid hsl
        clear hsl hown
        have g1' := g1.trans hg
        have hk3 : k ≤ 300 := by omega
        clear hkn
        have HE := Lib.hid (enV_small (xs := xs) (by rw [HS.out.1]; omega))
        have HE2 := Lib.hid (enV_small (xs := xs.map clip) (by rw [List.length_map, HS.out.1]; omega))
        rw [en_clip] at HE2
        go_wp2_with fail
        refine (energyE _ _ _ _ _ (HS.out.grew g1')).mono ?_
        rintro e w2 ⟨rfl, rfl⟩
        rw [HE.out]
        go_wp2_with fail
        refine (energyE _ _ _ _ _ SL.out).mono ?_
        rintro e w2 ⟨rfl, rfl⟩
        rw [HE2.out]
        go_wp2_with fail
        refine (windowsX _ _ _ _ _ _ _ (HS.out.grew g1') (by omega) hc).mono ?_
        rintro e w3 ⟨g3, A3, n3, c3, s3, _, rfl⟩
        rw [hwe.out]
        have S3 := Lib.hid s3
        clear s3
        go_wp2_with fail
        refine (windowsX _ _ _ _ _ _ _ (SL.out.grew g3) (by omega) hc').mono ?_
        rintro e w4 ⟨g4, A4, n4, c4, s4, _, rfl⟩
        rw [hwe.out]
        have S4 := Lib.hid (winX_clip xs _ _ ▸ s4)
        clear s4
        go_wp2_with fail
        refine (holdXX _ _ _ _ _ _ (HS.out.grew (g1'.trans (g3.trans g4))) (by omega)).mono ?_
        rintro e w5 ⟨g5, A5, n5, c5, s5, _, rfl⟩
        rw [hhe.out]
        have S5 := Lib.hid s5
        clear s5
        go_wp2_with fail
        refine (holdXX _ _ _ _ _ _ (SL.out.grew (g3.trans (g4.trans g5))) (by omega)).mono ?_
        rintro e w6 ⟨g6, A6, n6, c6, s6, _, rfl⟩
        rw [hhe.out]
        have S6 := Lib.hid (holdX_clip xs _ ▸ s6)
        clear s6
        have l3 : n3 ≤ 300 := by have := winX_length xs (1 + s) (1 + h); rw [S3.out.1, HS.out.1] at this; omega
        have l5 : n5 ≤ 300 := by have := holdX_length xs f; rw [S5.out.1, HS.out.1] at this; omega
        go_wp2_with fail
        refine (same_ _ _ _ _ _ _ _ _ _ (S3.out.grew (g4.trans (g5.trans g6))) (S4.out.grew (g5.trans g6)) (by omega)).mono ?_
        rintro e w9 ⟨rfl, g9⟩
        rw [decide_eq_true rfl]
        go_wp2_with fail
        refine (same_ _ _ _ _ _ _ _ _ _ (S5.out.grew (g6.trans g9)) (S6.out.grew g9) (by omega)).mono ?_
        rintro e w10 ⟨rfl, g10⟩
        rw [decide_eq_true rfl]
        go_wp2_with fail
        refine (peak _ _ _ _ _ (HS.out.grew (g1'.trans (g3.trans (g4.trans (g5.trans (g6.trans (g9.trans g10))))))) (by omega)).mono ?_
        rintro e w11 ⟨rfl, g11⟩
        go_wp2_with fail
        refine (peak _ _ _ _ _ (SL.out.grew (g3.trans (g4.trans (g5.trans (g6.trans (g9.trans (g10.trans g11))))))) (by omega)).mono ?_
        rintro e w12 ⟨rfl, g12⟩
        rw [pk_clip]
        go_wp2
        go_ret
        exact ⟨rfl, g1'.trans (g3.trans (g4.trans (g5.trans (g6.trans (g9.trans (g10.trans (g11.trans g12)))))))⟩
  · go_enter Try.func7, Try.ntmps7
    go_wp2_with fail
    refine (sane _).mono ?_
    rintro e w1 ⟨rfl, g1⟩
    go_wp2
    go_ret
    exact ⟨rfl, g1⟩

end Go.Proofs.Ytikoabajlibheaa
