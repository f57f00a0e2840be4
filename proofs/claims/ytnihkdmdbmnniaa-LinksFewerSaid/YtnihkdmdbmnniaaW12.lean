/- ref.circular, ref.Check. -/
import Derived.Test.YtnihkdmdbmnniaaW11
import Derived.Test.YtnihkdmdbmnniaaPlain5
set_option linter.unusedSimpArgs false
namespace Go.Proofs.Ytnihkdmdbmnniaa
open Go.RowKit

set_option maxHeartbeats 1000000 in
theorem circular_ (n : Nat) (A : Option Addr) (m c : Nat) (ls : List Lk) (w : World) (hs : SlL w A m ls) (hm : m ≤ 256) (hn : n ≤ 256) (hnd : (ls.map Lk.to).Nodup) :
    Calls Try.prog 21 #[.int .i64 n, .slice A m c] w fun e w' => e = .returned (.bool (circ ls n)) ∧ w = w' := by
  have HS := Lib.hid hs
  have HND := Lib.hid hnd
  clear hs hnd
  go_enter Try.func21, Try.ntmps21
  go_wp2
  go_loopw [5] (fun i wr => wr = w ∧ ∃ k : Nat, k ≤ n ∧ i = .int .i64 k ∧ Hid (∀ p : Nat, p < k → chain ls p (n + 1) = none)) (fun i _ => n - (intOf i).toNat)
  case atStart => exact ⟨rfl, 0, Nat.zero_le _, rfl, fun j hj => absurd hj (by omega)⟩
  case round =>
    obtain ⟨rfl, k, hk, rfl, hno⟩ := hrel
    by_cases hlt : k < n
    · go_wp2
      go_loopw [6, 7] (fun i j wr' => wr' = wr ∧ ∃ (s : Nat) (at_ : Int), s ≤ n ∧ i = .int .i64 at_ ∧ j = .int .i64 s ∧ Hid (chain ls k s = some at_)) (fun _ j _ => n + 1 - (intOf j).toNat)
      case atStart => exact ⟨rfl, 0, k, Nat.zero_le _, rfl, rfl, rfl⟩
      case round =>
        obtain ⟨rfl, s, q, hs, rfl, rfl, hch⟩ := hrel
        go_wp2_with fail
        refine (link_ _ _ _ _ _ _ HS.out hm).mono ?_
        rintro e w1 ⟨rfl, r, hr, rfl⟩
        rcases hr with ⟨rfl, hno2⟩ | ⟨i, rfl, hi, hto⟩
        · have HN1 : Hid (∀ p : Nat, p < k + 1 → chain ls p (n + 1) = none) := fun p hp => by
            rcases Nat.lt_or_ge p k with h | h
            · exact hno.out p h
            · obtain rfl : p = k := by omega
              have h1 : chain ls p (s + 1) = none := by simp only [chain, hch.out, src_none.2 hno2, Option.map_none]
              have := chain_none ls p (s + 1) h1 (n - s)
              rwa [show s + 1 + (n - s) = n + 1 by omega] at this
          clear hno2
          go_wp2
          go_roundw
          case rel => exact ⟨trivial, k + 1, by omega, by go_num, HN1⟩
          case measure => simp [intOf]; omega
        · go_wp2_with fail
          refine (link_ _ _ _ _ _ _ HS.out hm).mono ?_
          rintro e w1 ⟨rfl, r, hr, rfl⟩
          rcases hr with ⟨rfl, hno2⟩ | ⟨i2, rfl, hi2, hto2⟩
          · exact absurd (List.mem_map.2 ⟨ls.getD i Lk.z, by simp [List.getD, hi], hto⟩) hno2
          · have hmem : ls.getD i2 Lk.z ∈ ls := by simp [List.getD, hi2]
            have hsrc := src_of_mem HND.out hmem
            rw [hto2] at hsrc
            have HNX : Hid (chain ls k (s + 1) = some (ls.getD i2 Lk.z).fr) := by show chain ls k (s + 1) = _; simp only [chain, hch.out, hsrc, Option.map_some]
            have him : i2 < m := by rw [← HS.out.1]; exact hi2
            obtain ⟨b, off, hA, hb, hcell⟩ := HS.out.2 (by omega)
            have hc0 := (hcell i2 him).1
            subst hA
            generalize (ls.getD i2 Lk.z).fr = y at *
            clear hcell hmem hsrc hto hto2 hi hi2
            by_cases hlast : s = n
            · have HE : Hid (circ ls n = true) := by
                have := HNX.out
                rw [hlast] at this
                exact circ_true hlt this
              go_wp2
              go_ret
              exact ⟨by rw [HE.out]; rfl, rfl⟩
            · go_wp2
              go_roundw
              case rel => exact ⟨trivial, s + 1, y, by omega, rfl, by go_num, HNX⟩
              case measure => simp [intOf]; omega
    · have HE : Hid (circ ls n = false) := circ_false fun p hp => hno.out p (by omega)
      go_wp2
      go_ret
      exact ⟨by rw [HE.out]; rfl, rfl⟩

set_option maxHeartbeats 1000000 in
theorem rcheck_ (n : Int) (A : Option Addr) (m c : Nat) (ls : List Lk) (w : World) (hs : SlL w A m ls) :
    Calls Try.prog 12 #[.int .i64 n, .slice A m c] w fun e w' => e = .returned (.int .i64 (ordR n ls).2) ∧ Grew w w' := by
  have HS := Lib.hid hs
  clear hs
  by_cases h1 : n < 0
  · have HE : Hid ((ordR n ls).2 = 1) := by show (ordR n ls).2 = 1; unfold ordR; rw [if_pos (.inl h1)]
    go_enter Try.func12, Try.ntmps12
    go_wp2
    go_ret
    exact ⟨by rw [HE.out]; rfl, Grew.refl _⟩
  · by_cases h2 : 256 < n
    · have HE : Hid ((ordR n ls).2 = 1) := by show (ordR n ls).2 = 1; unfold ordR; rw [if_pos (.inr h2)]
      go_enter Try.func12, Try.ntmps12
      go_wp2
      go_ret
      exact ⟨by rw [HE.out]; rfl, Grew.refl _⟩
    · have hr : ¬ (n < 0 ∨ 256 < n) := by omega
      by_cases h3 : 256 < m
      · have HE : Hid ((ordR n ls).2 = 2) := by show (ordR n ls).2 = 2; unfold ordR; rw [if_neg hr, if_pos (by rw [HS.out.1]; exact h3)]
        clear hr
        go_enter Try.func12, Try.ntmps12
        go_wp2
        go_ret
        exact ⟨by rw [HE.out]; rfl, Grew.refl _⟩
      · have hnl : ¬ 256 < ls.length := by rw [HS.out.1]; exact h3
        obtain ⟨k, rfl⟩ : ∃ k : Nat, n = k := ⟨n.toNat, by omega⟩
        cases h4 : badL k ls with
        | true =>
          have HE : Hid ((ordR k ls).2 = 130) := by show (ordR k ls).2 = 130; unfold ordR; rw [if_neg hr, if_neg hnl, if_pos h4]
          have HB := Lib.hid h4
          clear hr hnl h4
          go_enter Try.func12, Try.ntmps12
          go_wp2_with fail
          refine (formed_ _ _ _ _ _ _ HS.out (by omega)).mono ?_
          rintro e w1 ⟨rfl, g1⟩
          rw [HB.out]
          go_wp2
          go_ret
          exact ⟨by rw [HE.out]; rfl, g1⟩
        | false =>
          have hnd := (mapOf_len ls).2.1 (badL_spec h4).1
          have HE : Hid ((ordR k ls).2 = if circ ls k then 131 else 0) := by
            show (ordR k ls).2 = _
            have hci := circ_iff h4
            unfold ordR
            rw [if_neg hr, if_neg hnl, h4]
            simp only [Bool.false_eq_true, if_false, Int.toNat_natCast]
            cases ho : ordK ls k k with
            | none => rw [hci.2 ho]; rfl
            | some os =>
              have : circ ls k = false := by
                cases hc : circ ls k with
                | false => rfl
                | true => rw [hci.1 hc] at ho; cases ho
              rw [this]; rfl
          have HB := Lib.hid h4
          have HND := Lib.hid hnd
          clear hr hnl h4 hnd
          go_enter Try.func12, Try.ntmps12
          go_wp2_with fail
          refine (formed_ _ _ _ _ _ _ HS.out (by omega)).mono ?_
          rintro e w1 ⟨rfl, g1⟩
          rw [HB.out]
          go_wp2_with fail
          refine (circular_ _ _ _ _ _ _ (HS.out.grew g1) (by omega) (by omega) HND.out).mono ?_
          rintro e w2 ⟨rfl, rfl⟩
          cases hc : circ ls k with
          | true =>
            rw [hc] at HE
            clear hc
            go_wp2
            go_ret
            exact ⟨by rw [HE.out]; rfl, g1⟩
          | false =>
            rw [hc] at HE
            clear hc
            go_wp2
            go_ret
            exact ⟨by rw [HE.out]; rfl, g1⟩
end Go.Proofs.Ytnihkdmdbmnniaa
