/- The walk of MetersHold. -/
import Derived.Test.YtikoabajlibheaaW8
namespace Go.Proofs.Ytikoabajlibheaa
open Go.RowKit

/-- The greatest of the first m sizes, each less the fall since, and 0. -/
def wantK (f : Int) (xs : List Int) (i : Int) : Nat → Int
  | 0 => 0
  | m + 1 => mx (wantK f xs i m) (sz (xs.getD m 0) - f * (i - m))

theorem mx_le (a b c : Int) : mx a b ≤ c ↔ a ≤ c ∧ b ≤ c := by unfold mx; split <;> omega
theorem mx_ge (a b c : Int) : c ≤ mx a b ↔ c ≤ a ∨ c ≤ b := by unfold mx; split <;> omega

theorem wantK_next (f : Int) (f0 : 0 ≤ f) (xs : List Int) (i : Int) : ∀ m, mx 0 (wantK f xs i m - f) = wantK f xs (i + 1) m
  | 0 => by unfold wantK mx; split <;> omega
  | m + 1 => by
    rw [wantK, wantK, ← wantK_next f f0 xs i m]
    have e : f * (i + 1 - m) = f * (i - m) + f := by rw [show i + 1 - (m : Int) = (i - m) + 1 by omega, Int.mul_add, Int.mul_one]
    rw [e]
    generalize f * (i - m) = z
    unfold mx
    split <;> split <;> split <;> (try split) <;> omega

theorem wantK_nonneg (f : Int) (xs : List Int) (i : Int) : ∀ m, 0 ≤ wantK f xs i m
  | 0 => Int.le_refl _
  | m + 1 => by rw [wantK, mx_ge]; exact .inl (wantK_nonneg f xs i m)

theorem hold_want (f : Int) (f0 : 0 ≤ f) (xs : List Int) : ∀ k, k < xs.length → (xs.take (k + 1)).foldl (hold1 f) 0 = wantK f xs k (k + 1)
  | 0, h => by
    rw [take_snoc xs 0 h]
    have := sz_le (xs.getD 0 0)
    simp only [List.take_zero, List.nil_append, List.foldl_cons, List.foldl_nil, wantK]
    unfold hold1
    have e : f * (((0 : Nat) : Int) - ((0 : Nat) : Int)) = 0 := by simp
    rw [e]
    generalize sz (xs.getD 0 0) = z at *
    unfold mx
    split <;> split <;> (try split) <;> omega
  | k + 1, h => by
    rw [take_snoc xs (k + 1) h, List.foldl_append, hold_want f f0 xs k (by omega)]
    simp only [List.foldl_cons, List.foldl_nil]
    have e4 : wantK f xs ((k + 1 : Nat) : Int) (k + 1 + 1) = mx (wantK f xs ((k + 1 : Nat) : Int) (k + 1)) (sz (xs.getD (k + 1) 0) - f * (((k + 1 : Nat) : Int) - ((k + 1 : Nat) : Int))) := rfl
    rw [e4]
    have e1 := wantK_next f f0 xs k (k + 1)
    have e2 : ((k : Int) + 1) = ((k + 1 : Nat) : Int) := by omega
    rw [e2] at e1
    rw [← e1]
    have e3 : f * (((k + 1 : Nat) : Int) - ((k + 1 : Nat) : Int)) = 0 := by simp
    rw [e3]
    have := sz_le (xs.getD (k + 1) 0)
    unfold hold1
    generalize sz (xs.getD (k + 1) 0) = z at *
    generalize wantK f xs k (k + 1) = y at *
    unfold mx
    split <;> split <;> split <;> (try split) <;> omega

theorem holdL_get (f : Int) : ∀ (xs : List Int) (h : Int) (k : Nat), k < xs.length → (holdL f h xs).getD k 0 = (xs.take (k + 1)).foldl (hold1 f) h
  | x :: xs, h, 0, _ => by simp [holdL]
  | x :: xs, h, k + 1, hk => by
    have := holdL_get f xs (hold1 f h x) k (by simpa using hk)
    simpa [holdL] using this

theorem hold_zero (xs : List Int) : ∀ h, 0 ≤ h → xs.foldl (hold1 0) h = (xs.map sz).foldl mx h := by
  induction xs with
  | nil => intro h _; rfl
  | cons x xs ih =>
    intro h h0
    have hs := sz_le x
    have e : hold1 0 h x = mx h (sz x) := by unfold hold1 mx; split <;> split <;> (try split) <;> omega
    simp only [List.foldl_cons, List.map_cons, e]
    exact ih _ (by unfold mx; split <;> omega)

theorem wantK_le (f : Int) (f0 : 0 ≤ f) (xs : List Int) (i : Int) : ∀ m : Nat, (m : Int) ≤ i + 1 → wantK f xs i m ≤ 2147483648
  | 0, _ => by unfold wantK; omega
  | m + 1, h => by
    rw [wantK, mx_le]
    have := sz_le (xs.getD m 0)
    have h2 : 0 ≤ f * (i - m) := Int.mul_nonneg f0 (by omega)
    exact ⟨wantK_le f f0 xs i m (by omega), by omega⟩

theorem pk_one (x : Int) : pk [x] = sz x := by
  have := sz_le x
  simp only [pk, List.map_cons, List.map_nil, List.foldl_cons, List.foldl_nil]
  unfold mx; split <;> omega

theorem drop_one (xs : List Int) (m : Nat) (h : m < xs.length) : (xs.drop m).take 1 = [xs.getD m 0] := by
  rw [List.drop_eq_getElem_cons h, List.take_succ_cons, List.take_zero]
  simp [List.getD, h]

theorem prod_le (f : Int) (f0 : 0 ≤ f) (f1 : f ≤ 2147483648) (k m : Nat) (h : m ≤ k) (hk : k ≤ 100) : 0 ≤ f * ((k : Int) - m) ∧ f * ((k : Int) - m) ≤ 214748364800 := by
  have h1 : 0 ≤ f * ((k : Int) - m) := Int.mul_nonneg f0 (by omega)
  have h2 : f * ((k : Int) - m) ≤ 2147483648 * 100 := Int.mul_le_mul f1 (by omega) (by omega) (by omega)
  omega

set_option maxHeartbeats 1000000 in
theorem metersHold_big (A : Option Addr) (n c : Nat) (xs : List Int) (f : Int) (w : World) (hs : Sl w A n xs) (hc : n ≤ c) (f0 : 0 ≤ f) (f1 : f ≤ 4294967295) (f2 : 2147483648 < f) (hn : n ≤ 100) :
    Calls Try.prog 6 #[.slice A n c, .int .u32 f] w fun e w' => e = .returned (.bool true) ∧ Grew w w' := by
  have HS := Lib.hid hs
  clear hs
  go_enter Try.func6, Try.ntmps6
  go_wp2_with fail
  refine (sane _).mono ?_
  rintro e w1 ⟨rfl, g1⟩
  go_wp2_with fail
  clear f0 f1 f2
  obtain ⟨g, hg⟩ : ∃ g : Int, g = 2147483648 := ⟨_, rfl⟩
  rw [← hg]
  have f0 : 0 ≤ g := by omega
  have f1 : g ≤ 2147483648 := by omega
  clear hg
  have hhe : Hid (holdE g = 0) := by unfold holdE; rw [if_pos ⟨f0, f1⟩]; rfl
  have hhx : Hid (holdX xs g = holdL g 0 xs) := by unfold holdX; rw [if_pos ⟨f0, f1⟩]; rfl
  refine (holdXX _ _ _ _ _ _ (HS.out.grew g1) (by omega)).mono ?_
  rintro e w3 ⟨g3, A3, n3, c3, s3, _, rfl⟩
  rw [hhe.out]
  rw [hhx.out] at s3
  obtain rfl : n3 = n := by have := s3.1; rw [holdL_length, HS.out.1] at this; omega
  have S3 := Lib.hid s3
  have S0 := Lib.hid (HS.out.grew (g1.trans g3))
  clear s3 hhe hhx
  go_wp2_with fail
  go_loopw [37] (fun i wr => ∃ k : Nat, k ≤ n3 ∧ i = .int .i64 k ∧ Grew w3 wr) (fun i _ => n3 - (intOf i).toNat)
  case atStart => exact ⟨0, Nat.zero_le _, rfl, Grew.refl _⟩
  case round =>
    obtain ⟨k, hk, rfl, hgr⟩ := hrel
    by_cases hlt : k < n3
    · obtain ⟨b, off, hA, hb, hcell⟩ := (S0.out.grew hgr).2 (by omega)
      obtain ⟨b3, off3, hA3, hb3, hcell3⟩ := (S3.out.grew hgr).2 (by omega)
      have hck := hcell3 k hlt
      rw [holdL_get g xs 0 k (by rw [HS.out.1]; exact hlt), hold_want g f0 xs k (by rw [HS.out.1]; exact hlt)] at hck
      clear hcell hcell3
      rw [hA, hA3]
      have SS := Lib.hid (hA ▸ (S0.out.grew hgr))
      clear hA hA3 hb hb3
      have HY := Lib.hid (show wantK g xs k (k + 1) = wantK g xs k (k + 1) from rfl)
      generalize hy : wantK g xs k (k + 1) = y at hck HY
      have HYY := Lib.hid hy
      clear hy HY
      go_wp2
      obtain ⟨wo, rfl⟩ : ∃ wo : World, wo = wr := ⟨_, rfl⟩
      go_loopw [10, 11] (fun want j wr2 => ∃ m : Nat, m ≤ k + 1 ∧ j = .int .i64 m ∧ want = .int .i64 (wantK g xs k m) ∧ Grew wo wr2) (fun _ j _ => k + 1 - (intOf j).toNat)
      case atStart => exact ⟨0, Nat.zero_le _, rfl, rfl, Grew.refl _⟩
      case round =>
        obtain ⟨m, hm, rfl, rfl, hgr2⟩ := hrel
        by_cases hmk : m ≤ k
        · have hsub := Lib.hid ((SS.out.grew hgr2).cut m 1 (by omega))
          rw [drop_one xs m (by rw [HS.out.1]; omega)] at hsub
          have hpr := prod_le g f0 f1 k m hmk (by omega)
          have HW : Hid (wantK g xs k (m + 1) = mx (wantK g xs k m) (sz (xs.getD m 0) - g * ((k : Int) - m))) := rfl
          have hw0 := wantK_nonneg g xs k m
          have hw1 := wantK_le g f0 xs k m (by omega)
          have hsz := sz_le (xs.getD m 0)
          generalize wantK g xs k m = v at *
          generalize xs.getD m 0 = x at *
          have HP := Lib.hid (show g * ((k : Int) - m) = g * ((k : Int) - m) from rfl)
          go_wp2_with fail
          refine (peak _ _ _ _ _ hsub.out (by omega)).mono ?_
          rintro e w5 ⟨rfl, g5⟩
          rw [pk_one]
          go_wp2
          go_roundw
          case rel => exact ⟨m + 1, by omega, by go_num, by rw [HW.out]; unfold mx; rfl, hgr2.trans g5⟩
          case measure => simp [intOf]; omega
        · obtain rfl : m = k + 1 := by omega
          rw [HYY.out]
          go_wp2
          go_roundw
          case rel => exact ⟨k + 1, by omega, by go_num, hgr.trans hgr2⟩
          case measure => simp [intOf]; omega
    · obtain rfl : n3 = k := by omega
      by_cases hn0 : n3 = 0
      · subst hn0
        go_wp2
        go_quiet (fail)
        go_wp2
        go_ret
        exact ⟨rfl, (g1.trans g3).trans (hgr.drewN _)⟩
      · by_cases hg0 : g = 0
        · subst hg0
          obtain ⟨b3, off3, hA3, hb3, hcell3⟩ := (S3.out.grew hgr).2 (by omega)
          have hcl := hcell3 (n3 - 1) (by omega)
          rw [holdL_get 0 xs 0 (n3 - 1) (by rw [HS.out.1]; omega), show n3 - 1 + 1 = n3 by omega, List.take_of_length_le (by rw [HS.out.1]; omega), hold_zero xs 0 (by omega)] at hcl
          have hb0 : ((n3 : Int) == 0) = false := by simp; omega
          rw [hA3]
          clear hA3 hcell3
          go_wp2
          refine RG.wp_region_rg 19 (fun a b => Grew a b) [fun u _ => u = .slice (some ⟨b3, off3, none⟩) n3 c3, fun u _ => u = .int .i64 n3, fun u _ => u = .bool false, fun u _ => u = .bool false, fun u _ => u = .int .i64 0, fun u _ => u = .bool false, fun u _ => u = .bool false, fun u _ => u = .bool false, fun u _ => u = .slice (some ⟨b3, off3, none⟩) n3 c3, fun u _ => u = .slice (some ⟨b3, off3, none⟩) n3 c3, fun u _ => u = .int .i64 n3, fun u _ => u = .int .i64 ((n3 : Int) - 1), fun u _ => u = .pointer (some ⟨b3, off3 + (n3 - 1), none⟩), fun u _ => u = .int .i64 (pk xs), fun u _ => u = .slice A n3 c, fun u _ => u = .int .i64 (pk xs), fun u _ => u = .bool true, fun u _ => u = .bool true, fun u _ => u = .bool true] Try.mixed (by kernel_rfl) rfl (Grew.refl _) (fun _ _ _ a b => a.trans b) ?st ?ob ?fin
          case st => exact ⟨fun _ _ _ _ h _ => h, fun _ _ _ _ h _ => h, fun _ _ _ _ h _ => h, fun _ _ _ _ h _ => h, fun _ _ _ _ h _ => h, fun _ _ _ _ h _ => h, fun _ _ _ _ h _ => h, fun _ _ _ _ h _ => h, fun _ _ _ _ h _ => h, fun _ _ _ _ h _ => h, fun _ _ _ _ h _ => h, fun _ _ _ _ h _ => h, fun _ _ _ _ h _ => h, fun _ _ _ _ h _ => h, fun _ _ _ _ h _ => h, fun _ _ _ _ h _ => h, fun _ _ _ _ h _ => h, fun _ _ _ _ h _ => h, fun _ _ _ _ h _ => h, trivial⟩
          case ob =>
            refine ⟨fun w' hR => ?_, fun w' hR => ?_, fun w' hR => ?_, fun w' hR => ?_, fun w' hR => ?_, fun w' hR => ?_, fun w' hR => ?_, fun w' hR => ?_, fun w' hR => ?_, fun w' hR => ?_, fun w' hR => ?_, fun w' hR => ?_, fun w' hR => ?_, fun w' hR => ?_, fun w' hR => ?_, fun w' hR => ?_, fun w' hR => ?_, fun w' hR => ?_, fun w' hR => ?_, trivial⟩
            · show wpList _ _ _ _ _ _
              go_wp2
              exact ⟨_, rfl, rfl, Grew.refl _⟩
            · rintro _ rfl
              show wpList _ _ _ _ _ _
              simp only [Act.put, List.setIfInBounds_toArray, List.set_cons_succ, List.set_cons_zero]
              go_wp2
              exact ⟨_, rfl, rfl, Grew.refl _⟩
            · rintro v0 _ rfl
              show wpList _ _ _ _ _ _
              simp only [Act.put, List.setIfInBounds_toArray, List.set_cons_succ, List.set_cons_zero]
              go_wp2
              exact ⟨_, rfl, rfl, Grew.refl _⟩
            · rintro v0 v1 _ rfl
              show wpList _ _ _ _ _ _
              simp only [Act.put, List.setIfInBounds_toArray, List.set_cons_succ, List.set_cons_zero]
              go_wp2
              exact ⟨_, rfl, rfl, Grew.refl _⟩
            · rintro v0 v1 v2 _ rfl
              show wpList _ _ _ _ _ _
              simp only [Act.put, List.setIfInBounds_toArray, List.set_cons_succ, List.set_cons_zero]
              go_wp2
              exact ⟨_, rfl, rfl, Grew.refl _⟩
            · rintro v0 v1 v2 _ rfl _ rfl
              show wpList _ _ _ _ _ _
              simp only [Act.put, List.setIfInBounds_toArray, List.set_cons_succ, List.set_cons_zero]
              go_wp2
              exact ⟨_, rfl, rfl, Grew.refl _⟩
            · rintro v0 v1 v2 _ rfl v4 _ rfl
              show wpList _ _ _ _ _ _
              simp only [Act.put, List.setIfInBounds_toArray, List.set_cons_succ, List.set_cons_zero]
              go_wp2
              exact ⟨_, rfl, rfl, Grew.refl _⟩
            · rintro v0 v1 v2 _ rfl v4 v5 _ rfl
              show wpList _ _ _ _ _ _
              simp only [Act.put, List.setIfInBounds_toArray, List.set_cons_succ, List.set_cons_zero]
              go_wp2
              exact ⟨_, rfl, rfl, Grew.refl _⟩
            · rintro v0 v1 v2 v3 v4 v5 v6 _ rfl
              show wpList _ _ _ _ _ _
              simp only [Act.put, List.setIfInBounds_toArray, List.set_cons_succ, List.set_cons_zero]
              go_wp2
              exact ⟨_, rfl, rfl, Grew.refl _⟩
            · rintro v0 v1 v2 v3 v4 v5 v6 _ rfl v8
              show wpList _ _ _ _ _ _
              simp only [Act.put, List.setIfInBounds_toArray, List.set_cons_succ, List.set_cons_zero]
              go_wp2
              exact ⟨_, rfl, rfl, Grew.refl _⟩
            · rintro v0 v1 v2 v3 v4 v5 v6 _ rfl v8 _ rfl
              show wpList _ _ _ _ _ _
              simp only [Act.put, List.setIfInBounds_toArray, List.set_cons_succ, List.set_cons_zero]
              go_wp2
              exact ⟨_, rfl, rfl, Grew.refl _⟩
            · rintro v0 v1 v2 v3 v4 v5 v6 _ rfl v8 v9 _ rfl
              show wpList _ _ _ _ _ _
              simp only [Act.put, List.setIfInBounds_toArray, List.set_cons_succ, List.set_cons_zero]
              go_wp2
              exact ⟨_, rfl, rfl, Grew.refl _⟩
            · rintro v0 v1 v2 v3 v4 v5 v6 _ rfl _ rfl v9 v10 _ rfl
              show wpList _ _ _ _ _ _
              simp only [Act.put, List.setIfInBounds_toArray, List.set_cons_succ, List.set_cons_zero]
              go_wp2
              exact ⟨_, rfl, rfl, Grew.refl _⟩
            · rintro v0 v1 v2 v3 v4 v5 v6 _ rfl v8 v9 v10 v11 _ rfl
              show wpList _ _ _ _ _ _
              simp only [Act.put, List.setIfInBounds_toArray, List.set_cons_succ, List.set_cons_zero]
              have hR := Grew.of_drew hR
              have hcc := (hR.cell hb3).trans hcl
              go_wp2
              exact ⟨_, rfl, rfl, Grew.refl _⟩
            · rintro v0 v1 v2 v3 v4 v5 v6 _ rfl v8 v9 v10 v11 v12 v13
              show wpList _ _ _ _ _ _
              simp only [Act.put, List.setIfInBounds_toArray, List.set_cons_succ, List.set_cons_zero]
              go_wp2
              exact ⟨_, rfl, rfl, Grew.refl _⟩
            · rintro v0 v1 v2 v3 v4 v5 v6 _ rfl v8 v9 v10 v11 v12 v13 _ rfl
              show wpList _ _ _ _ _ _
              simp only [Act.put, List.setIfInBounds_toArray, List.set_cons_succ, List.set_cons_zero]
              have hR := Grew.of_drew hR
              have HSL := Lib.hid (S0.out.grew (hgr.trans hR))
              go_wp2_with (go_at_call 15; refine (peak _ _ _ _ _ HSL.out (by omega)).mono ?_; rintro e w5 ⟨rfl, g5⟩)
              exact ⟨_, rfl, rfl, g5⟩
            · rintro v0 v1 v2 v3 v4 v5 v6 _ rfl v8 v9 v10 v11 v12 _ rfl v14 _ rfl
              show wpList _ _ _ _ _ _
              simp only [Act.put, List.setIfInBounds_toArray, List.set_cons_succ, List.set_cons_zero]
              go_wp2
              exact ⟨_, rfl, rfl, Grew.refl _⟩
            · rintro v0 v1 v2 v3 v4 v5 v6 _ rfl v8 v9 v10 v11 v12 v13 v14 v15 _ rfl
              show wpList _ _ _ _ _ _
              simp only [Act.put, List.setIfInBounds_toArray, List.set_cons_succ, List.set_cons_zero]
              go_wp2
              exact ⟨_, rfl, rfl, Grew.refl _⟩
            · rintro _ rfl _ rfl _ rfl _ rfl _ rfl _ rfl _ rfl _ rfl _ rfl _ rfl _ rfl _ rfl _ rfl _ rfl _ rfl _ rfl _ rfl _ rfl
              show wpList _ _ _ _ _ _
              simp only [Act.put, List.setIfInBounds_toArray, List.set_cons_succ, List.set_cons_zero]
              go_wp2
              exact ⟨_, rfl, rfl, Grew.refl _⟩
          case fin =>
            rintro w' hR _ rfl _ rfl _ rfl _ rfl _ rfl _ rfl _ rfl _ rfl _ rfl _ rfl _ rfl _ rfl _ rfl _ rfl _ rfl _ rfl _ rfl _ rfl _ rfl
            show wpList _ _ _ _ _ _
            simp only [Act.put, List.setIfInBounds_toArray, List.set_cons_succ, List.set_cons_zero, List.drop_succ_cons, List.drop_zero, List.drop_nil]
            have hR := Grew.of_drew hR
            go_wp2
            go_ret
            exact ⟨rfl, (g1.trans g3).trans (hgr.trans hR)⟩
        · have hb0 : ((n3 : Int) == 0) = false := by simp; omega
          have hb1 : (g != 0) = true := bne_iff_ne.2 hg0
          go_wp2
          go_quiet (fail)
          go_wp2
          go_ret
          exact ⟨rfl, (g1.trans g3).trans (hgr.drewN _)⟩

set_option maxHeartbeats 1000000 in
theorem metersHold_small (A : Option Addr) (n c : Nat) (xs : List Int) (f : Int) (w : World) (hs : Sl w A n xs) (hc : n ≤ c) (f0 : 0 ≤ f) (f1 : f ≤ 2147483648) (hn : n ≤ 100) :
    Calls Try.prog 6 #[.slice A n c, .int .u32 f] w fun e w' => e = .returned (.bool true) ∧ Grew w w' := by
  have HS := Lib.hid hs
  clear hs
  go_enter Try.func6, Try.ntmps6
  go_wp2_with fail
  refine (sane _).mono ?_
  rintro e w1 ⟨rfl, g1⟩
  go_wp2_with fail
  obtain ⟨g, hg⟩ : ∃ g : Int, g = f := ⟨_, rfl⟩
  rw [← hg]
  rw [← hg] at f1 f0
  clear hg
  have hhe : Hid (holdE g = 0) := by unfold holdE; rw [if_pos ⟨f0, f1⟩]; rfl
  have hhx : Hid (holdX xs g = holdL g 0 xs) := by unfold holdX; rw [if_pos ⟨f0, f1⟩]; rfl
  refine (holdXX _ _ _ _ _ _ (HS.out.grew g1) (by omega)).mono ?_
  rintro e w3 ⟨g3, A3, n3, c3, s3, _, rfl⟩
  rw [hhe.out]
  rw [hhx.out] at s3
  obtain rfl : n3 = n := by have := s3.1; rw [holdL_length, HS.out.1] at this; omega
  have S3 := Lib.hid s3
  have S0 := Lib.hid (HS.out.grew (g1.trans g3))
  clear s3 hhe hhx
  go_wp2_with fail
  go_loopw [37] (fun i wr => ∃ k : Nat, k ≤ n3 ∧ i = .int .i64 k ∧ Grew w3 wr) (fun i _ => n3 - (intOf i).toNat)
  case atStart => exact ⟨0, Nat.zero_le _, rfl, Grew.refl _⟩
  case round =>
    obtain ⟨k, hk, rfl, hgr⟩ := hrel
    by_cases hlt : k < n3
    · obtain ⟨b, off, hA, hb, hcell⟩ := (S0.out.grew hgr).2 (by omega)
      obtain ⟨b3, off3, hA3, hb3, hcell3⟩ := (S3.out.grew hgr).2 (by omega)
      have hck := hcell3 k hlt
      rw [holdL_get g xs 0 k (by rw [HS.out.1]; exact hlt), hold_want g f0 xs k (by rw [HS.out.1]; exact hlt)] at hck
      clear hcell hcell3
      rw [hA, hA3]
      have SS := Lib.hid (hA ▸ (S0.out.grew hgr))
      clear hA hA3 hb hb3
      have HY := Lib.hid (show wantK g xs k (k + 1) = wantK g xs k (k + 1) from rfl)
      generalize hy : wantK g xs k (k + 1) = y at hck HY
      have HYY := Lib.hid hy
      clear hy HY
      go_wp2
      obtain ⟨wo, rfl⟩ : ∃ wo : World, wo = wr := ⟨_, rfl⟩
      go_loopw [10, 11] (fun want j wr2 => ∃ m : Nat, m ≤ k + 1 ∧ j = .int .i64 m ∧ want = .int .i64 (wantK g xs k m) ∧ Grew wo wr2) (fun _ j _ => k + 1 - (intOf j).toNat)
      case atStart => exact ⟨0, Nat.zero_le _, rfl, rfl, Grew.refl _⟩
      case round =>
        obtain ⟨m, hm, rfl, rfl, hgr2⟩ := hrel
        by_cases hmk : m ≤ k
        · have hsub := Lib.hid ((SS.out.grew hgr2).cut m 1 (by omega))
          rw [drop_one xs m (by rw [HS.out.1]; omega)] at hsub
          have hpr := prod_le g f0 f1 k m hmk (by omega)
          have HW : Hid (wantK g xs k (m + 1) = mx (wantK g xs k m) (sz (xs.getD m 0) - g * ((k : Int) - m))) := rfl
          have hw0 := wantK_nonneg g xs k m
          have hw1 := wantK_le g f0 xs k m (by omega)
          have hsz := sz_le (xs.getD m 0)
          generalize wantK g xs k m = v at *
          generalize xs.getD m 0 = x at *
          have HP := Lib.hid (show g * ((k : Int) - m) = g * ((k : Int) - m) from rfl)
          go_wp2_with fail
          refine (peak _ _ _ _ _ hsub.out (by omega)).mono ?_
          rintro e w5 ⟨rfl, g5⟩
          rw [pk_one]
          go_wp2
          go_roundw
          case rel => exact ⟨m + 1, by omega, by go_num, by rw [HW.out]; unfold mx; rfl, hgr2.trans g5⟩
          case measure => simp [intOf]; omega
        · obtain rfl : m = k + 1 := by omega
          rw [HYY.out]
          go_wp2
          go_roundw
          case rel => exact ⟨k + 1, by omega, by go_num, hgr.trans hgr2⟩
          case measure => simp [intOf]; omega
    · obtain rfl : n3 = k := by omega
      by_cases hn0 : n3 = 0
      · subst hn0
        go_wp2
        go_quiet (fail)
        go_wp2
        go_ret
        exact ⟨rfl, (g1.trans g3).trans (hgr.drewN _)⟩
      · by_cases hg0 : g = 0
        · subst hg0
          obtain ⟨b3, off3, hA3, hb3, hcell3⟩ := (S3.out.grew hgr).2 (by omega)
          have hcl := hcell3 (n3 - 1) (by omega)
          rw [holdL_get 0 xs 0 (n3 - 1) (by rw [HS.out.1]; omega), show n3 - 1 + 1 = n3 by omega, List.take_of_length_le (by rw [HS.out.1]; omega), hold_zero xs 0 (by omega)] at hcl
          have hb0 : ((n3 : Int) == 0) = false := by simp; omega
          rw [hA3]
          clear hA3 hcell3
          go_wp2
          refine RG.wp_region_rg 19 (fun a b => Grew a b) [fun u _ => u = .slice (some ⟨b3, off3, none⟩) n3 c3, fun u _ => u = .int .i64 n3, fun u _ => u = .bool false, fun u _ => u = .bool false, fun u _ => u = .int .i64 0, fun u _ => u = .bool false, fun u _ => u = .bool false, fun u _ => u = .bool false, fun u _ => u = .slice (some ⟨b3, off3, none⟩) n3 c3, fun u _ => u = .slice (some ⟨b3, off3, none⟩) n3 c3, fun u _ => u = .int .i64 n3, fun u _ => u = .int .i64 ((n3 : Int) - 1), fun u _ => u = .pointer (some ⟨b3, off3 + (n3 - 1), none⟩), fun u _ => u = .int .i64 (pk xs), fun u _ => u = .slice A n3 c, fun u _ => u = .int .i64 (pk xs), fun u _ => u = .bool true, fun u _ => u = .bool true, fun u _ => u = .bool true] Try.mixed (by kernel_rfl) rfl (Grew.refl _) (fun _ _ _ a b => a.trans b) ?st ?ob ?fin
          case st => exact ⟨fun _ _ _ _ h _ => h, fun _ _ _ _ h _ => h, fun _ _ _ _ h _ => h, fun _ _ _ _ h _ => h, fun _ _ _ _ h _ => h, fun _ _ _ _ h _ => h, fun _ _ _ _ h _ => h, fun _ _ _ _ h _ => h, fun _ _ _ _ h _ => h, fun _ _ _ _ h _ => h, fun _ _ _ _ h _ => h, fun _ _ _ _ h _ => h, fun _ _ _ _ h _ => h, fun _ _ _ _ h _ => h, fun _ _ _ _ h _ => h, fun _ _ _ _ h _ => h, fun _ _ _ _ h _ => h, fun _ _ _ _ h _ => h, fun _ _ _ _ h _ => h, trivial⟩
          case ob =>
            refine ⟨fun w' hR => ?_, fun w' hR => ?_, fun w' hR => ?_, fun w' hR => ?_, fun w' hR => ?_, fun w' hR => ?_, fun w' hR => ?_, fun w' hR => ?_, fun w' hR => ?_, fun w' hR => ?_, fun w' hR => ?_, fun w' hR => ?_, fun w' hR => ?_, fun w' hR => ?_, fun w' hR => ?_, fun w' hR => ?_, fun w' hR => ?_, fun w' hR => ?_, fun w' hR => ?_, trivial⟩
            · show wpList _ _ _ _ _ _
              go_wp2
              exact ⟨_, rfl, rfl, Grew.refl _⟩
            · rintro _ rfl
              show wpList _ _ _ _ _ _
              simp only [Act.put, List.setIfInBounds_toArray, List.set_cons_succ, List.set_cons_zero]
              go_wp2
              exact ⟨_, rfl, rfl, Grew.refl _⟩
            · rintro v0 _ rfl
              show wpList _ _ _ _ _ _
              simp only [Act.put, List.setIfInBounds_toArray, List.set_cons_succ, List.set_cons_zero]
              go_wp2
              exact ⟨_, rfl, rfl, Grew.refl _⟩
            · rintro v0 v1 _ rfl
              show wpList _ _ _ _ _ _
              simp only [Act.put, List.setIfInBounds_toArray, List.set_cons_succ, List.set_cons_zero]
              go_wp2
              exact ⟨_, rfl, rfl, Grew.refl _⟩
            · rintro v0 v1 v2 _ rfl
              show wpList _ _ _ _ _ _
              simp only [Act.put, List.setIfInBounds_toArray, List.set_cons_succ, List.set_cons_zero]
              go_wp2
              exact ⟨_, rfl, rfl, Grew.refl _⟩
            · rintro v0 v1 v2 _ rfl _ rfl
              show wpList _ _ _ _ _ _
              simp only [Act.put, List.setIfInBounds_toArray, List.set_cons_succ, List.set_cons_zero]
              go_wp2
              exact ⟨_, rfl, rfl, Grew.refl _⟩
            · rintro v0 v1 v2 _ rfl v4 _ rfl
              show wpList _ _ _ _ _ _
              simp only [Act.put, List.setIfInBounds_toArray, List.set_cons_succ, List.set_cons_zero]
              go_wp2
              exact ⟨_, rfl, rfl, Grew.refl _⟩
            · rintro v0 v1 v2 _ rfl v4 v5 _ rfl
              show wpList _ _ _ _ _ _
              simp only [Act.put, List.setIfInBounds_toArray, List.set_cons_succ, List.set_cons_zero]
              go_wp2
              exact ⟨_, rfl, rfl, Grew.refl _⟩
            · rintro v0 v1 v2 v3 v4 v5 v6 _ rfl
              show wpList _ _ _ _ _ _
              simp only [Act.put, List.setIfInBounds_toArray, List.set_cons_succ, List.set_cons_zero]
              go_wp2
              exact ⟨_, rfl, rfl, Grew.refl _⟩
            · rintro v0 v1 v2 v3 v4 v5 v6 _ rfl v8
              show wpList _ _ _ _ _ _
              simp only [Act.put, List.setIfInBounds_toArray, List.set_cons_succ, List.set_cons_zero]
              go_wp2
              exact ⟨_, rfl, rfl, Grew.refl _⟩
            · rintro v0 v1 v2 v3 v4 v5 v6 _ rfl v8 _ rfl
              show wpList _ _ _ _ _ _
              simp only [Act.put, List.setIfInBounds_toArray, List.set_cons_succ, List.set_cons_zero]
              go_wp2
              exact ⟨_, rfl, rfl, Grew.refl _⟩
            · rintro v0 v1 v2 v3 v4 v5 v6 _ rfl v8 v9 _ rfl
              show wpList _ _ _ _ _ _
              simp only [Act.put, List.setIfInBounds_toArray, List.set_cons_succ, List.set_cons_zero]
              go_wp2
              exact ⟨_, rfl, rfl, Grew.refl _⟩
            · rintro v0 v1 v2 v3 v4 v5 v6 _ rfl _ rfl v9 v10 _ rfl
              show wpList _ _ _ _ _ _
              simp only [Act.put, List.setIfInBounds_toArray, List.set_cons_succ, List.set_cons_zero]
              go_wp2
              exact ⟨_, rfl, rfl, Grew.refl _⟩
            · rintro v0 v1 v2 v3 v4 v5 v6 _ rfl v8 v9 v10 v11 _ rfl
              show wpList _ _ _ _ _ _
              simp only [Act.put, List.setIfInBounds_toArray, List.set_cons_succ, List.set_cons_zero]
              have hR := Grew.of_drew hR
              have hcc := (hR.cell hb3).trans hcl
              go_wp2
              exact ⟨_, rfl, rfl, Grew.refl _⟩
            · rintro v0 v1 v2 v3 v4 v5 v6 _ rfl v8 v9 v10 v11 v12 v13
              show wpList _ _ _ _ _ _
              simp only [Act.put, List.setIfInBounds_toArray, List.set_cons_succ, List.set_cons_zero]
              go_wp2
              exact ⟨_, rfl, rfl, Grew.refl _⟩
            · rintro v0 v1 v2 v3 v4 v5 v6 _ rfl v8 v9 v10 v11 v12 v13 _ rfl
              show wpList _ _ _ _ _ _
              simp only [Act.put, List.setIfInBounds_toArray, List.set_cons_succ, List.set_cons_zero]
              have hR := Grew.of_drew hR
              have HSL := Lib.hid (S0.out.grew (hgr.trans hR))
              go_wp2_with (go_at_call 15; refine (peak _ _ _ _ _ HSL.out (by omega)).mono ?_; rintro e w5 ⟨rfl, g5⟩)
              exact ⟨_, rfl, rfl, g5⟩
            · rintro v0 v1 v2 v3 v4 v5 v6 _ rfl v8 v9 v10 v11 v12 _ rfl v14 _ rfl
              show wpList _ _ _ _ _ _
              simp only [Act.put, List.setIfInBounds_toArray, List.set_cons_succ, List.set_cons_zero]
              go_wp2
              exact ⟨_, rfl, rfl, Grew.refl _⟩
            · rintro v0 v1 v2 v3 v4 v5 v6 _ rfl v8 v9 v10 v11 v12 v13 v14 v15 _ rfl
              show wpList _ _ _ _ _ _
              simp only [Act.put, List.setIfInBounds_toArray, List.set_cons_succ, List.set_cons_zero]
              go_wp2
              exact ⟨_, rfl, rfl, Grew.refl _⟩
            · rintro _ rfl _ rfl _ rfl _ rfl _ rfl _ rfl _ rfl _ rfl _ rfl _ rfl _ rfl _ rfl _ rfl _ rfl _ rfl _ rfl _ rfl _ rfl
              show wpList _ _ _ _ _ _
              simp only [Act.put, List.setIfInBounds_toArray, List.set_cons_succ, List.set_cons_zero]
              go_wp2
              exact ⟨_, rfl, rfl, Grew.refl _⟩
          case fin =>
            rintro w' hR _ rfl _ rfl _ rfl _ rfl _ rfl _ rfl _ rfl _ rfl _ rfl _ rfl _ rfl _ rfl _ rfl _ rfl _ rfl _ rfl _ rfl _ rfl _ rfl
            show wpList _ _ _ _ _ _
            simp only [Act.put, List.setIfInBounds_toArray, List.set_cons_succ, List.set_cons_zero, List.drop_succ_cons, List.drop_zero, List.drop_nil]
            have hR := Grew.of_drew hR
            go_wp2
            go_ret
            exact ⟨rfl, (g1.trans g3).trans (hgr.trans hR)⟩
        · have hb0 : ((n3 : Int) == 0) = false := by simp; omega
          have hb1 : (g != 0) = true := bne_iff_ne.2 hg0
          go_wp2
          go_quiet (fail)
          go_wp2
          go_ret
          exact ⟨rfl, (g1.trans g3).trans (hgr.drewN _)⟩


theorem metersHold_walk (A : Option Addr) (n c : Nat) (xs : List Int) (f : Int) (w : World) (hs : Sl w A n xs) (hc : n ≤ c) (f0 : 0 ≤ f) (f1 : f ≤ 4294967295) :
    Calls Try.prog 6 #[.slice A n c, .int .u32 f] w fun e w' => e = .returned (.bool true) ∧ Grew w w' := by
  by_cases hn : n ≤ 100
  · by_cases h : f ≤ 2147483648
    · exact metersHold_small A n c xs f w hs hc f0 h hn
    · exact metersHold_big A n c xs f w hs hc f0 f1 (by omega) hn
  · clear hs
    go_enter Try.func6, Try.ntmps6
    go_wp2_with fail
    refine (sane _).mono ?_
    rintro e w1 ⟨rfl, g1⟩
    go_wp2
    go_ret
    exact ⟨rfl, g1⟩

end Go.Proofs.Ytikoabajlibheaa
