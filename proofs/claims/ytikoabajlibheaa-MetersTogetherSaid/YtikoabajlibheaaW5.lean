/- Contracts of the reference's Windows. -/
import Derived.Test.YtikoabajlibheaaW4
namespace Go.Proofs.Ytikoabajlibheaa
open Go.RowKit

/-- How many windows there are. -/
def cnt (n s h : Nat) : Nat := if s ≤ n then (n - s) / h + 1 else 0

theorem cnt_iff (n s h k : Nat) (hh : 1 ≤ h) : k < cnt n s h ↔ k * h + s ≤ n := by
  unfold cnt
  split
  · rw [Nat.lt_succ_iff, Nat.le_div_iff_mul_le (by omega)]; omega
  · constructor
    · omega
    · intro h'; exfalso; have := Nat.zero_le (k * h); omega

theorem cnt_le (n s h : Nat) (hs : 1 ≤ s) : cnt n s h ≤ n := by
  unfold cnt
  split
  · have := Nat.div_le_self (n - s) h; omega
  · omega

/-- The energies of the first k windows. -/
def winK (xs : List Int) (s h k : Nat) : List Int := (List.range k).map fun j => en ((xs.drop (j * h)).take s)
def winL (xs : List Int) (s h : Nat) : List Int := winK xs s h (cnt xs.length s h)

theorem winK_succ (xs : List Int) (s h k : Nat) : winK xs s h (k + 1) = winK xs s h k ++ [en ((xs.drop (k * h)).take s)] := by
  simp [winK, List.range_succ]

theorem winK_length (xs : List Int) (s h k : Nat) : (winK xs s h k).length = k := by simp [winK]

def okW (s h : Int) : Bool := decide (1 ≤ s ∧ s ≤ 65536 ∧ 1 ≤ h ∧ h ≤ 16777216)

/-- What Windows answers. -/
def WinV (w : World) (xs : List Int) (s h : Int) (e : Ending) (w' : World) : Prop :=
  Grew w w' ∧ ∃ A n c, Sl w' A n (if okW s h then winL xs s.toNat h.toNat else []) ∧ n ≤ c ∧ e = .returned (.tuple #[.slice A n c, .int .i64 (if okW s h then 0 else 1)])

/-- A part of a slice. -/
theorem Sl.cut {w : World} {b off n : Nat} {xs : List Int} (h : Sl w (some ⟨b, off, none⟩) n xs) (k s : Nat) (hk : k + s ≤ n) :
    Sl w (some ⟨b, off + k, none⟩) s ((xs.drop k).take s) := by
  obtain ⟨hl, hc⟩ := h
  refine ⟨by simp; omega, fun hs => ?_⟩
  obtain ⟨b', off', e, hb, hcell⟩ := hc (by omega)
  injection e with e
  injection e with e1 e2 _
  subst e1 e2
  refine ⟨b, off + k, rfl, hb, fun j hj => ?_⟩
  have := hcell (k + j) (by omega)
  rw [← Nat.add_assoc] at this
  rw [this]
  simp [List.getD, hj]

set_option maxHeartbeats 400000 in
theorem rwindows (A : Option Addr) (n c : Nat) (xs : List Int) (s h : Int) (w : World) (hs : Sl w A n xs) (hn : n ≤ 65536) (hc : n ≤ c) :
    Calls Try.prog 12 #[.slice A n c, .int .i64 s, .int .i64 h] w (WinV w xs s h) := by
  by_cases hok : okW s h = true
  · have HV : Hid (∀ e w', (Grew w w' ∧ ∃ A n c, Sl w' A n (winL xs s.toNat h.toNat) ∧ n ≤ c ∧ e = .returned (.tuple #[.slice A n c, .int .i64 0])) → WinV w xs s h e w') := by
      intro e w' h; unfold WinV; rw [if_pos hok, if_pos hok]; exact h
    obtain ⟨s0, s1, h0, h1⟩ := of_decide_eq_true hok
    clear hok
    have HL := Lib.hid hs.1
    have HS := Lib.hid hs
    clear hs
    obtain ⟨i0, hi, hz0, hz1, hz2⟩ := info_parts Try.info3
    obtain ⟨sn, rfl⟩ := Int.eq_ofNat_of_zero_le (show 0 ≤ s by omega)
    obtain ⟨hn', rfl⟩ := Int.eq_ofNat_of_zero_le (show 0 ≤ h by omega)
    rw [Int.toNat_natCast, Int.toNat_natCast] at HV
    have HC := Lib.hid (fun k => cnt_iff n sn hn' k (by omega))
    go_enter Try.func12, Try.ntmps12
    go_wp2
    go_loopw [8, 9] (fun v i wr => ∃ k p : Nat, Hid (p = k * hn') ∧ p ≤ n + hn' ∧ k ≤ cnt n sn hn' ∧ i = .int .i64 p ∧
      wr.ownsRow w.heap.size 3 1 v k ((winK xs sn hn' k).map (Value.int .i64)) ∧ Grew w wr) (fun _ i _ => n + hn' + 1 - (intOf i).toNat)
    case atStart => exact ⟨0, 0, by simp [Hid], by omega, Nat.zero_le _, rfl, ⟨rfl, .inl ⟨rfl, rfl⟩⟩, Grew.refl _⟩
    case round =>
      obtain ⟨k, p, hp, hpn, hk, rfl, hown, hg⟩ := hrel
      by_cases hlt : p + sn ≤ n
      · obtain ⟨b, off, rfl, hb, hcell⟩ := (HS.out.grew hg).2 (by omega)
        have hsub := Lib.hid ((HS.out.grew hg).cut p sn hlt)
        have HK := Lib.hid (winK_succ xs sn hn' k)
        rw [← hp.out] at HK
        have hklt : k < cnt n sn hn' := (HC.out k).2 (by rw [← hp.out]; exact hlt)
        have HOWN := Lib.hid hown
        clear hown hcell
        have hcn := cnt_le n sn hn' (by omega)
        go_wp2_with (first | (go_at_call 20; refine (rsum _ _ _ _ _ hsub.out (by omega)).mono ?_; rintro e w' ⟨rfl, rfl⟩) | (at_builtin; refine wpList_append_own _ rfl _ _ 22 rfl w.heap.size 3 i0 (.int .i64 0) 1 8 Try.underlying22 hi hz0 hz1 hz2 rfl (by decide) _ _ _ rfl (HOWN.out.alloc _) ⟨wr.heap.size, 0, none⟩ 1 1 [.int .i64 _] rfl rfl (cell_one_new _ _ _) (by simp [Value.oneCell']) (by unfold maxLen; omega) (by omega) (by have := hg.size; simp; omega) ?_; intro v' w1 hown' hgrow _))
        go_roundw
        case rel => exact ⟨k + 1, p + hn', by rw [hp.out, Nat.succ_mul]; rfl, by omega, by omega, by go_num, by rw [HK.out, List.map_append]; exact hown', grew_own (hg.alloc _) HOWN.out hgrow⟩
        case measure => simp [intOf]; omega
      · have hkc : k = cnt n sn hn' := by
          have : ¬ k < cnt n sn hn' := fun h => hlt (by rw [hp.out]; exact (HC.out k).1 h)
          omega
        have HE : Hid (winK xs sn hn' k = winL xs sn hn') := by unfold winL; rw [HL.out, hkc]; rfl
        clear hkc
        go_wp2
        go_ret2
        rw [HE.out] at hown
        obtain ⟨A', c', rfl, hc', hsl⟩ := own_sl hown
        exact HV.out _ _ ⟨hg, A', k, c', hsl, hc', rfl⟩
  · have HV : Hid (∀ e w', (Grew w w' ∧ ∃ A n c, Sl w' A n [] ∧ n ≤ c ∧ e = .returned (.tuple #[.slice A n c, .int .i64 1])) → WinV w xs s h e w') := by
      intro e w' h; unfold WinV; rw [if_neg hok, if_neg hok]; exact h
    have hok' : ¬ (1 ≤ s ∧ s ≤ 65536 ∧ 1 ≤ h ∧ h ≤ 16777216) := fun h' => hok (decide_eq_true h')
    clear hs hok
    have fin : ∀ w', Grew w w' → WinV w xs s h (.returned (.tuple #[.slice none 0 0, .int .i64 1])) w' := fun w' hg => HV.out _ _ ⟨hg, none, 0, 0, Sl.nil _ _, Nat.le_refl _, rfl⟩
    have FIN := Lib.hid fin
    clear fin HV
    by_cases h1 : s < 1
    · clear hok'
      go_enter Try.func12, Try.ntmps12
      go_wp2
      go_ret2
      exact FIN.out _ (Grew.refl _)
    · by_cases h2 : 65536 < s
      · clear hok'
        go_enter Try.func12, Try.ntmps12
        go_wp2
        go_ret2
        exact FIN.out _ (Grew.refl _)
      · by_cases h3 : h < 1
        · clear hok'
          go_enter Try.func12, Try.ntmps12
          go_wp2
          go_ret2
          exact FIN.out _ (Grew.refl _)
        · have h4 : 16777216 < h := by omega
          clear hok'
          go_enter Try.func12, Try.ntmps12
          go_wp2
          go_ret2
          exact FIN.out _ (Grew.refl _)

end Go.Proofs.Ytikoabajlibheaa
