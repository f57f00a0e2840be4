/- Contracts of the functions that read a list: Peak, energy, and their references. -/
import Derived.Test.YtikoabajlibheaaW1
import Derived.Deep.QuietTactic
import Derived.BigQuiet
namespace Go.Proofs.Ytikoabajlibheaa
open Go.RowKit

theorem div_pos_ (a b : Int) (h : 0 ≤ a.tmod b) (hb : 1 ≤ b) : a.tdiv b = a / b := by
  have h1 := Int.tmod_def a b
  have h2 := Int.tmod_lt_of_pos a (show 0 < b by omega)
  have h3 : a = b * a.tdiv b + a.tmod b := by omega
  generalize a.tdiv b = q at *
  generalize a.tmod b = r at *
  symm
  rw [h3, Int.mul_add_ediv_left _ _ (by omega), Int.ediv_eq_zero_of_lt h (by omega)]
  omega

theorem tdiv_bd (a b : Int) (ha : -2147483648 ≤ a) (ha2 : a ≤ 2147483647) (hb : 1 ≤ b) : -2147483648 ≤ a.tdiv b ∧ a.tdiv b ≤ 2147483647 := by
  have h1 := Int.natAbs_tdiv a b
  have h2 := Nat.div_le_self a.natAbs b.natAbs
  have h3 : (a.tdiv b).natAbs ≤ a.natAbs := by rw [h1]; exact h2
  rcases Int.le_total 0 a with h | h
  · have := Int.tdiv_nonneg h (show 0 ≤ b by omega); omega
  · have : 0 ≤ (-a).tdiv b := Int.tdiv_nonneg (by omega) (by omega)
    rw [Int.neg_tdiv] at this
    omega

theorem div_neg_ (a b : Int) (h : a.tmod b < 0) (hb : 1 ≤ b) (ha : -2147483648 ≤ a) (ha2 : a ≤ 2147483647) (hb2 : b ≤ 2147483647) : wrap64 (a.tdiv b - 1) = a / b := by
  have h1 := Int.tmod_def a b
  have h2 : -b < a.tmod b := by
    have h4 := Int.tmod_lt_of_pos (-a) (show 0 < b by omega)
    rw [Int.neg_tmod] at h4
    omega
  have h5 := tdiv_bd a b ha ha2 hb
  rw [IntWalk.wrap64_in _ ⟨by omega, by omega⟩]
  have h3 : a = b * (a.tdiv b - 1) + (a.tmod b + b) := by rw [Int.mul_sub]; omega
  generalize a.tdiv b = q at *
  generalize a.tmod b = r at *
  symm
  rw [h3, Int.mul_add_ediv_left _ _ (by omega), Int.ediv_eq_zero_of_lt (by omega) (by omega)]
  omega

theorem floor_ (a b : Int) (w : World) (ha : -2147483648 ≤ a) (ha2 : a ≤ 2147483647) (hb : 1 ≤ b) (hb2 : b ≤ 2147483647) :
    Calls Try.prog 27 #[.int .i64 a, .int .i64 b] w fun e w' => e = .returned (.int .i64 (a / b)) ∧ w = w' := by
  have hz : (b == 0) = false := by simp; omega
  go_enter Try.func27, Try.ntmps27
  go_wp2
  · go_ret
    refine ⟨ret_int ?_, rfl⟩
    have h1 : a.tmod b < 0 := by assumption
    exact div_neg_ a b h1 hb ha ha2 hb2
  · go_ret
    refine ⟨ret_int ?_, rfl⟩
    have h1 : 0 ≤ a.tmod b := by assumption
    exact div_pos_ a b h1 hb

def pk (l : List Int) : Int := (l.map sz).foldl mx 0

theorem pk_snoc (l : List Int) (x : Int) : pk (l ++ [x]) = mx (pk l) (sz x) := by simp [pk]

theorem pk_le (l : List Int) : 0 ≤ pk l ∧ pk l ≤ 2147483648 := by
  unfold pk
  have h : ∀ (l : List Int) (a : Int), 0 ≤ a → a ≤ 2147483648 → 0 ≤ (l.map sz).foldl mx a ∧ (l.map sz).foldl mx a ≤ 2147483648 := by
    intro l
    induction l with
    | nil => intro a h1 h2; exact ⟨h1, h2⟩
    | cons x l ih => 
      intro a h1 h2
      have := sz_le x
      simp only [List.map_cons, List.foldl_cons]
      apply ih <;> (unfold mx; split <;> omega)
  exact h l 0 (by omega) (by omega)

theorem peak (A : Option Addr) (n c : Nat) (xs : List Int) (w : World) (hs : Sl w A n xs) (hn : n ≤ 9223372036854775806) :
    Calls Try.prog 15 #[.slice A n c] w fun e w' => e = .returned (.int .i64 (pk xs)) ∧ Grew w w' := by
  have HS0 := hs
  have HL := Lib.hid hs.1
  have HS := Lib.hid hs
  clear hs HS0
  go_enter Try.func15, Try.ntmps15
  go_wp2
  go_loopw [2, 7] (fun m i wr => ∃ k : Nat, k ≤ n ∧ i = .int .i64 k ∧ m = .int .i64 (pk (xs.take k)) ∧ Grew w wr) (fun _ i _ => n - (intOf i).toNat)
  case atStart => exact ⟨0, Nat.zero_le _, rfl, rfl, Grew.refl _⟩
  case round =>
    obtain ⟨k, hk, rfl, rfl, hg⟩ := hrel
    by_cases hlt : k < n
    · obtain ⟨b, off, rfl, hb, hcell⟩ := (HS.out.grew hg).2 (by omega)
      have hck := hcell k hlt
      have HK : Hid (pk (xs.take (k + 1)) = mx (pk (xs.take k)) (sz (xs.getD k 0))) := by
        rw [take_snoc xs k (by rw [HL.out]; exact hlt)]; exact pk_snoc _ _
      clear hcell
      generalize pk (xs.take k) = m at *
      generalize xs.getD k 0 = x at *
      go_wp2_with (first | (go_at_call 24; refine (size_ _ _).mono ?_; rintro e w' ⟨rfl, hg1⟩) | (go_at_call 23; refine (greatest _ _ _ _ [sz x] _ (Sl.new _ [sz x] _) (by simp)).mono ?_; rintro e w' ⟨rfl, rfl⟩))
      go_roundw
      case rel => exact ⟨k + 1, by omega, by go_num, by rw [HK.out]; rfl, (hg.trans hg1).alloc _⟩
      case measure => simp [intOf]; omega
    · go_wp2
      go_ret
      exact ⟨ret_int (by rw [List.take_of_length_le (by rw [HL.out]; omega)]), hg⟩

theorem rpeak (A : Option Addr) (n c : Nat) (xs : List Int) (w : World) (hs : Sl w A n xs) (hn : n ≤ 9223372036854775806) :
    Calls Try.prog 16 #[.slice A n c] w fun e w' => e = .returned (.int .i64 (pk xs)) ∧ w = w' := by
  obtain ⟨hl, hc⟩ := hs
  have HL := Lib.hid hl
  clear hl
  go_enter Try.func16, Try.ntmps16
  go_wp2
  go_loop [3, 4] (fun m i => ∃ k : Nat, k ≤ n ∧ i = .int .i64 k ∧ m = .int .i64 (pk (xs.take k))) (fun _ i => n - (intOf i).toNat)
  case atStart => exact ⟨0, Nat.zero_le _, rfl, rfl⟩
  case round =>
    obtain ⟨k, hk, rfl, rfl⟩ := hrel
    by_cases hlt : k < n
    · obtain ⟨b, off, rfl, hb, hcell⟩ := hc (by omega)
      have hck := hcell k hlt
      have HK : Hid (pk (xs.take (k + 1)) = mx (pk (xs.take k)) (sz (xs.getD k 0))) := by
        rw [take_snoc xs k (by rw [HL.out]; exact hlt)]; exact pk_snoc _ _
      clear hcell hc
      generalize pk (xs.take k) = m at *
      generalize xs.getD k 0 = x at *
      go_wp2_with (go_at_call 25; refine (rsize _ _).mono ?_; rintro e w' ⟨rfl, rfl⟩)
      all_goals
        go_round
        case rel => exact ⟨k + 1, by omega, by go_num, by rw [HK.out]; unfold mx; split <;> first | rfl | (exact congrArg _ (by omega))⟩
        case measure => simp [intOf]; omega
    · go_wp2
      go_ret
      exact ⟨ret_int (by rw [List.take_of_length_le (by rw [HL.out]; omega)]), rfl⟩

/-- The energy of samples. -/
def q8 (x : Int) : Int := clip x / 256
def en (l : List Int) : Int := (l.map fun x => q8 x * q8 x).sum

theorem q8_le (x : Int) : -8388608 ≤ q8 x ∧ q8 x ≤ 8388607 := by have := clip_le x; unfold q8; omega

theorem sq_le (x : Int) (h : -8388608 ≤ x) (h2 : x ≤ 8388607) : 0 ≤ x * x ∧ x * x ≤ 70368744177664 := by
  have e : x * x = ((x.natAbs * x.natAbs : Nat) : Int) := by rw [Int.natAbs_mul_self]
  rw [e]
  have h3 : x.natAbs ≤ 8388608 := by omega
  have := Nat.mul_le_mul h3 h3
  omega

theorem en_snoc (l : List Int) (x : Int) : en (l ++ [x]) = en l + q8 x * q8 x := by simp [en]

theorem en_le (l : List Int) : 0 ≤ en l ∧ en l ≤ l.length * 70368744177664 := by
  induction l with
  | nil => simp [en]
  | cons x l ih =>
    have h := q8_le x
    have h2 := sq_le _ h.1 h.2
    simp only [en, List.map_cons, List.sum_cons, List.length_cons] at *
    omega

theorem en_step (m x : Int) (h1 : 0 ≤ m) (h4 : m ≤ 65535 * 70368744177664) : wrap64 (m + wrap64 (clip x / 256 * (clip x / 256))) = m + q8 x * q8 x := by
  have h := q8_le x
  have h2 := sq_le _ h.1 h.2
  have e : q8 x = clip x / 256 := rfl
  rw [← e]
  generalize q8 x * q8 x = z at *
  rw [IntWalk.wrap64_in z ⟨by omega, by omega⟩, IntWalk.wrap64_in _ ⟨by omega, by omega⟩]

theorem energy (A : Option Addr) (n c : Nat) (xs : List Int) (w : World) (hs : Sl w A n xs) (hn : n ≤ 65536) :
    Calls Try.prog 19 #[.slice A n c] w fun e w' => e = .returned (.int .i64 (en xs)) ∧ w = w' := by
  obtain ⟨hl, hc⟩ := hs
  have HL := Lib.hid hl
  clear hl
  go_enter Try.func19, Try.ntmps19
  go_wp2
  go_loop [2, 8] (fun m i => ∃ k : Nat, k ≤ n ∧ i = .int .i64 k ∧ m = .int .i64 (en (xs.take k))) (fun _ i => n - (intOf i).toNat)
  case atStart => exact ⟨0, Nat.zero_le _, rfl, rfl⟩
  case round =>
    obtain ⟨k, hk, rfl, rfl⟩ := hrel
    by_cases hlt : k < n
    · obtain ⟨b, off, rfl, hb, hcell⟩ := hc (by omega)
      have hck := hcell k hlt
      have HK : Hid (en (xs.take (k + 1)) = en (xs.take k) + q8 (xs.getD k 0) * q8 (xs.getD k 0)) := by
        rw [take_snoc xs k (by rw [HL.out]; exact hlt)]; exact en_snoc _ _
      have h1 := (en_le (xs.take k)).1
      have h2 := (en_le (xs.take k)).2
      have h3 : (xs.take k).length ≤ k := List.length_take_le _ _
      have h4 : en (xs.take k) ≤ 65535 * 70368744177664 := by omega
      clear h2 h3
      clear hcell hc
      generalize en (xs.take k) = m at *
      generalize xs.getD k 0 = x at *
      have hcl := clip_le x
      go_wp2_with (go_at_call 26; refine (fclip _ _).mono ?_; rintro e w' ⟨rfl, rfl⟩)
      go_round
      case rel => exact ⟨k + 1, by omega, by go_num, by rw [HK.out, en_step m x h1 h4]⟩
      case measure => simp [intOf]; omega
    · go_wp2
      go_ret
      exact ⟨ret_int (by rw [List.take_of_length_le (by rw [HL.out]; omega)]), rfl⟩

theorem rsum (A : Option Addr) (n c : Nat) (xs : List Int) (w : World) (hs : Sl w A n xs) (hn : n ≤ 65536) :
    Calls Try.prog 20 #[.slice A n c] w fun e w' => e = .returned (.int .i64 (en xs)) ∧ w = w' := by
  obtain ⟨hl, hc⟩ := hs
  have HL := Lib.hid hl
  clear hl
  go_enter Try.func20, Try.ntmps20
  go_wp2
  go_loop [3, 4] (fun m i => ∃ k : Nat, k ≤ n ∧ i = .int .i64 k ∧ m = .int .i64 (en (xs.take k))) (fun _ i => n - (intOf i).toNat)
  case atStart => exact ⟨0, Nat.zero_le _, rfl, rfl⟩
  case round =>
    obtain ⟨k, hk, rfl, rfl⟩ := hrel
    by_cases hlt : k < n
    · obtain ⟨b, off, rfl, hb, hcell⟩ := hc (by omega)
      have hck := hcell k hlt
      have HK : Hid (en (xs.take (k + 1)) = en (xs.take k) + q8 (xs.getD k 0) * q8 (xs.getD k 0)) := by
        rw [take_snoc xs k (by rw [HL.out]; exact hlt)]; exact en_snoc _ _
      have h1 := (en_le (xs.take k)).1
      have h2 := (en_le (xs.take k)).2
      have h3 : (xs.take k).length ≤ k := List.length_take_le _ _
      have h4 : en (xs.take k) ≤ 65535 * 70368744177664 := by omega
      clear h2 h3
      clear hcell hc
      generalize en (xs.take k) = m at *
      generalize xs.getD k 0 = x at *
      have hcl := clip_le x
      go_wp2_with (first | (go_at_call 18; refine (rclip _ _).mono ?_; rintro e w' ⟨rfl, rfl⟩) | (go_at_call 27; refine (floor_ _ _ _ (by omega) (by omega) (by omega) (by omega)).mono ?_; rintro e w' ⟨rfl, rfl⟩))
      go_round
      case rel => exact ⟨k + 1, by omega, by go_num, by rw [HK.out, en_step m x h1 h4]⟩
      case measure => simp [intOf]; omega
    · go_wp2
      go_ret
      exact ⟨ret_int (by rw [List.take_of_length_le (by rw [HL.out]; omega)]), rfl⟩

/-- What Energy answers. -/
def enV (xs : List Int) : Value := if xs.length ≤ 65536 then .tuple #[.int .i64 (en xs), .int .i64 0] else .tuple #[.int .i64 0, .int .i64 2]

theorem energyE (A : Option Addr) (n c : Nat) (xs : List Int) (w : World) (hs : Sl w A n xs) :
    Calls Try.prog 9 #[.slice A n c] w fun e w' => e = .returned (enV xs) ∧ w = w' := by
  by_cases h : n ≤ 65536
  · have HF : Hid (enV xs = .tuple #[.int .i64 (en xs), .int .i64 0]) := by unfold enV; rw [if_pos (by rw [hs.1]; exact h)]; rfl
    have HS := Lib.hid hs
    clear hs
    go_enter Try.func9, Try.ntmps9
    go_wp2_with (go_at_call 19; refine (energy _ _ _ _ _ HS.out h).mono ?_; rintro e w' ⟨rfl, rfl⟩)
    go_ret2
    exact ⟨by rw [HF.out]; rfl, rfl⟩
  · have HF : Hid (enV xs = .tuple #[.int .i64 0, .int .i64 2]) := by unfold enV; rw [if_neg (by rw [hs.1]; exact h)]; rfl
    clear hs
    go_enter Try.func9, Try.ntmps9
    go_wp2
    go_ret2
    exact ⟨by rw [HF.out]; rfl, rfl⟩

theorem renergyE (A : Option Addr) (n c : Nat) (xs : List Int) (w : World) (hs : Sl w A n xs) :
    Calls Try.prog 10 #[.slice A n c] w fun e w' => e = .returned (enV xs) ∧ w = w' := by
  by_cases h : n ≤ 65536
  · have HF : Hid (enV xs = .tuple #[.int .i64 (en xs), .int .i64 0]) := by unfold enV; rw [if_pos (by rw [hs.1]; exact h)]; rfl
    have HS := Lib.hid hs
    clear hs
    go_enter Try.func10, Try.ntmps10
    go_wp2_with (go_at_call 20; refine (rsum _ _ _ _ _ HS.out h).mono ?_; rintro e w' ⟨rfl, rfl⟩)
    go_ret2
    exact ⟨by rw [HF.out]; rfl, rfl⟩
  · have HF : Hid (enV xs = .tuple #[.int .i64 0, .int .i64 2]) := by unfold enV; rw [if_neg (by rw [hs.1]; exact h)]; rfl
    clear hs
    go_enter Try.func10, Try.ntmps10
    go_wp2
    go_ret2
    exact ⟨by rw [HF.out]; rfl, rfl⟩

theorem Grew.drewN {a w : World} (h : Grew a w) (n : Nat) : Grew a (w.drewN n) := ⟨h.os, h.tape, h.output, h.size, h.block⟩

theorem take_eq_snoc (xs ys : List Int) (k n : Nat) (hx : xs.length = n) (hy : ys.length = n) (h : k < n) (he : xs.take k = ys.take k) (hk : xs.getD k 0 = ys.getD k 0) : xs.take (k + 1) = ys.take (k + 1) := by
  rw [take_snoc xs k (by omega), take_snoc ys k (by omega), he, hk]

set_option maxHeartbeats 400000 in
theorem same_ (A B : Option Addr) (n m c d : Nat) (xs ys : List Int) (w : World) (hs : Sl w A n xs) (ht : Sl w B m ys) (hn : n ≤ 9223372036854775806) :
    Calls Try.prog 17 #[.slice A n c, .slice B m d] w fun e w' => e = .returned (.bool (decide (xs = ys))) ∧ Grew w w' := by
  by_cases hnm : n = m
  · subst hnm
    have HL := Lib.hid hs.1
    have HL2 := Lib.hid ht.1
    have HS := Lib.hid hs
    have HT := Lib.hid ht
    clear hs ht
    go_enter Try.func17, Try.ntmps17
    go_wp2
    go_loopw [13] (fun i wr => ∃ k : Nat, k ≤ n ∧ i = .int .i64 k ∧ Hid (xs.take k = ys.take k) ∧ Grew w wr) (fun i _ => n - (intOf i).toNat)
    case atStart => exact ⟨0, Nat.zero_le _, rfl, rfl, Grew.refl _⟩
    case round =>
      obtain ⟨k, hk, rfl, he, hg⟩ := hrel
      by_cases hlt : k < n
      · obtain ⟨b, off, rfl, hb, hcell⟩ := (HS.out.grew hg).2 (by omega)
        have hck := hcell k hlt
        obtain ⟨b2, off2, rfl, hb2, hcell2⟩ := (HT.out.grew hg).2 (by omega)
        have hck2 := hcell2 k hlt
        clear hcell hcell2
        by_cases hxy : xs.getD k 0 = ys.getD k 0
        · have HN := Lib.hid (take_eq_snoc xs ys k n HL.out HL2.out hlt he.out hxy)
          generalize xs.getD k 0 = x at *
          subst hxy
          go_wp2
          go_quiet (fail)
          go_wp2
          go_roundw
          case rel => exact ⟨k + 1, by omega, by go_num, HN, hg.drewN _⟩
          case measure => simp [intOf]; omega
        · have HN : Hid (¬ xs = ys) := fun e => hxy (by rw [e])
          have hne : (xs.getD k 0 != ys.getD k 0) = true := bne_iff_ne.2 hxy
          clear hxy
          generalize xs.getD k 0 = x at *
          generalize ys.getD k 0 = y at *
          go_wp2
          go_quiet (fail)
          go_wp2
          go_ret
          exact ⟨by rw [decide_eq_false HN.out]; rfl, hg.drewN _⟩
      · go_wp2
        go_ret
        refine ⟨?_, hg⟩
        have e := he.out
        rw [List.take_of_length_le (by rw [HL.out]; omega), List.take_of_length_le (by rw [HL2.out]; omega)] at e
        rw [decide_eq_true e]; rfl
  · have HN : Hid (¬ xs = ys) := fun e => hnm (by rw [← hs.1, ← ht.1, e])
    have hne : ((n : Int) != (m : Int)) = true := by simp [bne]; omega
    clear hs ht hnm
    go_enter Try.func17, Try.ntmps17
    go_wp2
    go_ret
    exact ⟨by rw [decide_eq_false HN.out]; rfl, Grew.refl _⟩

end Go.Proofs.Ytikoabajlibheaa
