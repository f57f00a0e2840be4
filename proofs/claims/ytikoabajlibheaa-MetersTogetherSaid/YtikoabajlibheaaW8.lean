/- The sanity examples. -/
import Derived.Test.YtikoabajlibheaaW7
namespace Go.Proofs.Ytikoabajlibheaa
open Go.RowKit

theorem Sl.new' (w : World) (xs : List Int) (t : TypeId) (z : Nat) (hz : w.heap.size = z) : Sl (w.alloc (.cells (xs.map (Value.int .i64)).toArray t)) (some ⟨z, 0, none⟩) xs.length xs := by
  subst hz; exact Sl.new w xs t

theorem sane1 : enV [256, -256, 255, -1] = .tuple #[.int .i64 3, .int .i64 0] := by rfl
theorem sane2 : enV [] = .tuple #[.int .i64 0, .int .i64 0] := by rfl
theorem sane3 : (if okW 2 3 then winL [256, 0, 0, 512, 0] (2 : Int).toNat (3 : Int).toNat else []) = [1, 4] := by decide +kernel
theorem sane4 : (if (0 : Int) ≤ 2 ∧ (2 : Int) ≤ 2147483648 then holdL 2 0 [5, 0, 0, 1] else []) = [5, 3, 1, 1] := by decide +kernel
theorem sane5 : pk [3, -5] = 5 := by decide +kernel
theorem sane6 : pk [-2147483648] = 2147483648 := by decide +kernel

set_option maxHeartbeats 1000000 in
theorem sane (w : World) : Calls Try.prog 8 #[] w fun e w' => e = .returned (.bool true) ∧ Grew w w' := by
  go_enter Try.func8, Try.ntmps8
  go_wp2_with fail
  refine (energyE _ _ _ [256, -256, 255, -1] _ (Sl.new _ [256, -256, 255, -1] _)).mono ?_
  rintro e w1 ⟨rfl, rfl⟩
  rw [sane1]
  go_wp2_with fail
  refine (windows_ _ _ _ [256, 0, 0, 512, 0] _ _ _ (Sl.new' _ [256, 0, 0, 512, 0] _ _ (by simp)) (by simp) (by simp)).mono ?_
  rintro e w2 ⟨g2, A2, n2, c2, s2, hc2, rfl⟩
  have S2 := Lib.hid (sane3 ▸ s2)
  have G2 := Lib.hid (Grew.trans (((Grew.refl w).alloc _).alloc _) g2)
  clear s2 g2
  go_wp2_with fail
  refine (hold_ _ _ _ [5, 0, 0, 1] _ _ (Sl.new' _ [5, 0, 0, 1] _ _ (by simp)) (by simp)).mono ?_
  rintro e w3 ⟨g3, A3, n3, c3, s3, hc3, rfl⟩
  have S3 := Lib.hid (sane4 ▸ s3)
  have G3 := Lib.hid (Grew.trans ((Grew.refl w2).alloc _) g3)
  clear s3 g3
  go_wp2_with fail
  refine (windows_ _ _ _ [] _ _ _ (Sl.nil _ _) (by omega) (by omega)).mono ?_
  rintro e w4 ⟨G4, A4, n4, c4, _, _, rfl⟩
  go_wp2_with fail
  refine (hold_ _ _ _ [] _ _ (Sl.nil _ _) (by omega)).mono ?_
  rintro e w5 ⟨G5, A5, n5, c5, _, _, rfl⟩
  go_wp2_with fail
  refine (energyE _ _ _ [] _ (Sl.nil _ _)).mono ?_
  rintro e w6 ⟨rfl, rfl⟩
  rw [sane2]
  go_wp2_with fail
  refine (peak _ _ _ [3, -5] _ (Sl.new' _ [3, -5] _ _ rfl) (by simp)).mono ?_
  rintro e w7 ⟨rfl, g7⟩
  rw [sane5]
  have G7 := Lib.hid (Grew.trans ((Grew.refl w5).alloc _) g7)
  clear g7
  go_wp2_with fail
  refine (peak _ _ _ [-2147483648] _ (Sl.new' _ [-2147483648] _ _ rfl) (by simp)).mono ?_
  rintro e w8 ⟨rfl, g8⟩
  rw [sane6]
  have G8 := Lib.hid (Grew.trans ((Grew.refl w7).alloc _) g8)
  clear g8
  go_wp2_with fail
  refine (same_ _ _ _ _ _ _ [1, 4] [1, 4] _ ((S2.out).grew (G3.out.trans (G4.trans (G5.trans (G7.out.trans (G8.out.alloc _)))))) (Sl.new' _ [1, 4] _ _ rfl) (by have := S2.out.1; simp at this; omega)).mono ?_
  rintro e w9 ⟨rfl, g9⟩
  have G9 := Lib.hid (Grew.trans ((Grew.refl w8).alloc _) g9)
  clear g9
  go_wp2_with fail
  refine (same_ _ _ _ _ _ _ [5, 3, 1, 1] [5, 3, 1, 1] _ ((S3.out).grew (G4.trans (G5.trans (G7.out.trans (G8.out.trans (G9.out.alloc _)))))) (Sl.new' _ [5, 3, 1, 1] _ _ rfl) (by have := S3.out.1; simp at this; omega)).mono ?_
  rintro e w10 ⟨rfl, g10⟩
  have G10 := Lib.hid (Grew.trans ((Grew.refl w9).alloc _) g10)
  clear g10
  go_wp2
  go_ret
  exact ⟨rfl, G2.out.trans (G3.out.trans (G4.trans (G5.trans (G7.out.trans (G8.out.trans (G9.out.trans G10.out))))))⟩

/-- The values of Windows and Hold. -/
def winX (xs : List Int) (s h : Int) : List Int := if okW s h then winL xs s.toNat h.toNat else []
def winE (s h : Int) : Int := if okW s h then 0 else 1
def holdX (xs : List Int) (f : Int) : List Int := if 0 ≤ f ∧ f ≤ 2147483648 then holdL f 0 xs else []
def holdE (f : Int) : Int := if 0 ≤ f ∧ f ≤ 2147483648 then 0 else 1

theorem windowsX (A : Option Addr) (n c : Nat) (xs : List Int) (s h : Int) (w : World) (hs : Sl w A n xs) (hn : n ≤ 65536) (hc : n ≤ c) :
    Calls Try.prog 11 #[.slice A n c, .int .i64 s, .int .i64 h] w fun e w' => Grew w w' ∧ ∃ A n c, Sl w' A n (winX xs s h) ∧ n ≤ c ∧ e = .returned (.tuple #[.slice A n c, .int .i64 (winE s h)]) := windows_ A n c xs s h w hs hn hc
theorem rwindowsX (A : Option Addr) (n c : Nat) (xs : List Int) (s h : Int) (w : World) (hs : Sl w A n xs) (hn : n ≤ 65536) (hc : n ≤ c) :
    Calls Try.prog 12 #[.slice A n c, .int .i64 s, .int .i64 h] w fun e w' => Grew w w' ∧ ∃ A n c, Sl w' A n (winX xs s h) ∧ n ≤ c ∧ e = .returned (.tuple #[.slice A n c, .int .i64 (winE s h)]) := rwindows A n c xs s h w hs hn hc
theorem holdXX (A : Option Addr) (n c : Nat) (xs : List Int) (f : Int) (w : World) (hs : Sl w A n xs) (hn : n ≤ 65536) :
    Calls Try.prog 13 #[.slice A n c, .int .i64 f] w fun e w' => Grew w w' ∧ ∃ A n c, Sl w' A n (holdX xs f) ∧ n ≤ c ∧ e = .returned (.tuple #[.slice A n c, .int .i64 (holdE f)]) := hold_ A n c xs f w hs hn
theorem rholdX (A : Option Addr) (n c : Nat) (xs : List Int) (f : Int) (w : World) (hs : Sl w A n xs) (hn : n ≤ 65536) :
    Calls Try.prog 14 #[.slice A n c, .int .i64 f] w fun e w' => Grew w w' ∧ ∃ A n c, Sl w' A n (holdX xs f) ∧ n ≤ c ∧ e = .returned (.tuple #[.slice A n c, .int .i64 (holdE f)]) := rhold A n c xs f w hs hn

theorem winX_length (xs : List Int) (s h : Int) : (winX xs s h).length ≤ xs.length := by
  unfold winX
  split
  · rename_i hok
    obtain ⟨s0, _, _, _⟩ := of_decide_eq_true hok
    unfold winL
    rw [winK_length]
    exact cnt_le _ _ _ (by omega)
  · simp

theorem holdX_length (xs : List Int) (f : Int) : (holdX xs f).length ≤ xs.length := by
  unfold holdX
  split
  · rw [holdL_length]; omega
  · simp

/-- A slice that came in. -/
theorem sl_of_row {w : World} {a : Option Addr} {len cap : Nat} {zs : List Int}
    (h : (a = none ∧ len = 0 ∧ cap = 0 ∧ zs = []) ∨ ∃ x, a = some x ∧ len ≤ cap ∧ cap ≤ maxLen ∧ zs.length = cap ∧ (∀ i, i < zs.length → w.cell? (x.add i) = some (.int .i64 (zs.getD i 0))) ∧ ∀ n ∈ zs, (Lit.int .i64 n).wf = true) :
    Sl w a len (zs.take len) ∧ len ≤ cap := by
  rcases h with ⟨rfl, rfl, rfl, rfl⟩ | ⟨x, rfl, hl, _, hz, hc, _⟩
  · exact ⟨Sl.nil _ _, Nat.le_refl _⟩
  · refine ⟨⟨by simp; omega, fun hn => ?_⟩, hl⟩
    have h0 := hc 0 (by omega)
    have hs : x.spot = none := by
      cases hsp : x.spot with
      | none => rfl
      | some k =>
        exfalso
        simp only [Addr.add, if_true, World.cell?] at h0
        split at h0
        · simp [hsp] at h0
        · cases h0
    have hb : x.block < w.heap.size := by
      rcases Nat.lt_or_ge x.block w.heap.size with h | h
      · exact h
      · simp [Addr.add, World.cell?, Array.getElem?_eq_none h] at h0
    refine ⟨x.block, x.off, by rw [← hs], hb, fun j hj => ?_⟩
    have := hc j (by omega)
    have e : x.add j = ⟨x.block, x.off + j, none⟩ := by
      unfold Addr.add
      split
      · rename_i h; subst h; rw [← hs]; rfl
      · rfl
    rw [e] at this
    rw [this]
    simp [List.getD, hj]

end Go.Proofs.Ytikoabajlibheaa
