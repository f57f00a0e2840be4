import Derived.Test.YtnihkdmdbmnniaaW6

set_option linter.unusedSimpArgs false
namespace Go.Proofs.Ytnihkdmdbmnniaa
open Go.RowKit

theorem sn1 : ordR 3 [⟨2, 0, 1, 1, 0⟩] = ([1, 2, 0], 0) := by decide +kernel
theorem sn2 : ordR 3 [⟨0, 1, 1, 1, 0⟩, ⟨1, 2, 1, 1, 0⟩] = ([0, 1, 2], 0) := by decide +kernel
theorem sn3 : valR [⟨1, 0, 2, 3, 5⟩] [0, -7] = ([0, -7], 0) := by decide +kernel
theorem sn4 : valR [⟨2, 0, 1, 1, 0⟩] [9, 1099511627776, -1099511627776] = ([-2147483648, 2147483647, -2147483648], 0) := by decide +kernel
theorem sn5 : (ordR 0 []).2 = 0 := by decide +kernel
theorem sn6 : (ordR 257 []).2 = 1 := by decide +kernel
theorem sn7 : (ordR (-1) []).2 = 1 := by decide +kernel
theorem sn8 : (ordR 2 [⟨0, 1, 1, 1, 0⟩, ⟨1, 0, 1, 1, 0⟩]).2 = 131 := by decide +kernel
theorem sn9 : (ordR 3 [⟨0, 1, 0, 1, 0⟩, ⟨2, 1, 0, 1, 0⟩]).2 = 130 := by decide +kernel
theorem sn10 : (ordR 1 [⟨0, 0, 0, 1, 0⟩]).2 = 130 := by decide +kernel

theorem SlL.nil (w : World) (A : Option Addr) : SlL w A 0 [] := ⟨rfl, fun h => absurd h (by omega)⟩

theorem SlL.new1 (w : World) (f t n d a : Int) (ty : TypeId) (z : Nat) (hz : w.heap.size = z) :
    SlL (w.alloc (.cells #[.int .i64 f, .int .i64 t, .int .i64 n, .int .i64 d, .int .i64 a] ty)) (some ⟨z, 0, none⟩) 1 [⟨f, t, n, d, a⟩] := by
  subst hz
  refine ⟨rfl, fun _ => ⟨_, _, rfl, by simp, fun j hj => ?_⟩⟩
  obtain rfl : j = 0 := by omega
  simp only [cell_new]
  exact ⟨rfl, rfl, rfl, rfl, rfl⟩

theorem SlL.new2 (w : World) (f t n d a f2 t2 n2 d2 a2 : Int) (ty : TypeId) (z : Nat) (hz : w.heap.size = z) :
    SlL (w.alloc (.cells #[.int .i64 f, .int .i64 t, .int .i64 n, .int .i64 d, .int .i64 a, .int .i64 f2, .int .i64 t2, .int .i64 n2, .int .i64 d2, .int .i64 a2] ty)) (some ⟨z, 0, none⟩) 2 [⟨f, t, n, d, a⟩, ⟨f2, t2, n2, d2, a2⟩] := by
  subst hz
  refine ⟨rfl, fun _ => ⟨_, _, rfl, by simp, fun j hj => ?_⟩⟩
  simp only [cell_new]
  rcases (by omega : j = 0 ∨ j = 1) with rfl | rfl <;> exact ⟨rfl, rfl, rfl, rfl, rfl⟩

set_option maxRecDepth 100000 in
set_option maxHeartbeats 2000000 in
theorem sane (w : World) : Calls Try.prog 10 #[] w fun e w' => e = .returned (.bool true) ∧ Grew w w' := by
  go_enter Try.func10, Try.ntmps10
  go_wp2_with fail
  have L0 := Lib.hid (SlL.new1 w 2 0 1 1 0 34 _ rfl)
  have G0 := Lib.hid ((Grew.refl w).alloc (.cells #[.int .i64 2, .int .i64 0, .int .i64 1, .int .i64 1, .int .i64 0] 34))
  refine (order_ _ _ _ _ [⟨2, 0, 1, 1, 0⟩] _ L0.out).mono ?_
  rintro e w1 ⟨g1, A1, m1, c1, s1, h1, rfl⟩
  rw [sn1] at s1 ⊢
  have S1 := Lib.hid s1
  have L1 := Lib.hid (L0.out.grew g1)
  have G1 := Lib.hid (G0.out.trans g1)
  clear s1 g1 L0 G0
  dsimp only
  go_wp2_with fail
  refine (order_ _ _ _ _ [⟨0, 1, 1, 1, 0⟩, ⟨1, 2, 1, 1, 0⟩] _ (SlL.new2 w1 0 1 1 1 0 1 2 1 1 0 _ _ rfl)).mono ?_
  rintro e w2 ⟨g2, A2, m2, c2, s2, h2, rfl⟩
  rw [sn2] at s2 ⊢
  have S2 := Lib.hid s2
  have g2 := (((Grew.refl w1).alloc _).trans g2)
  have S1 := Lib.hid (S1.out.grew g2)
  have L2 := Lib.hid (L1.out.grew g2)
  have G2 := Lib.hid (G1.out.trans g2)
  clear s2 g2 L1 G1
  dsimp only
  go_wp2_with fail
  refine (values_ _ _ _ [⟨1, 0, 2, 3, 5⟩] _ _ _ [0, -7] _ ((SlL.new1 w2 1 0 2 3 5 _ _ rfl).grew ((Grew.refl _).alloc _)) (Sl.new' _ [0, -7] _ _ (by simp))).mono ?_
  rintro e w3 ⟨g3, A3, m3, c3, s3, h3, rfl⟩
  rw [sn3] at s3 ⊢
  have S3 := Lib.hid s3
  have g3 := ((((Grew.refl w2).alloc _).alloc _).trans g3)
  have S1 := Lib.hid (S1.out.grew g3)
  have S2 := Lib.hid (S2.out.grew g3)
  have L3 := Lib.hid (L2.out.grew g3)
  have G3 := Lib.hid (G2.out.trans g3)
  clear s3 g3 L2 G2
  dsimp only
  go_wp2_with fail
  refine (values_ _ _ _ [⟨2, 0, 1, 1, 0⟩] _ _ _ [9, 1099511627776, -1099511627776] _ (L3.out.grew ((Grew.refl _).alloc _)) (Sl.new' _ [9, 1099511627776, -1099511627776] _ _ rfl)).mono ?_
  rintro e w4 ⟨g4, A4, m4, c4, s4, h4, rfl⟩
  rw [sn4] at s4 ⊢
  have S4 := Lib.hid s4
  have g4 := (((Grew.refl w3).alloc _).trans g4)
  have S1 := Lib.hid (S1.out.grew g4)
  have S2 := Lib.hid (S2.out.grew g4)
  have S3 := Lib.hid (S3.out.grew g4)
  have G4 := Lib.hid (G3.out.trans g4)
  clear s4 g4 L3 G3
  dsimp only
  go_wp2_with fail
  refine (check_ _ _ _ _ [] _ (SlL.nil _ _)).mono ?_
  rintro e w5 ⟨rfl, g5⟩
  rw [sn5]
  have g5 := g5
  have G5 := Lib.hid (Grew.trans G4.out g5)
  have S1 := Lib.hid (S1.out.grew g5)
  have S2 := Lib.hid (S2.out.grew g5)
  have S3 := Lib.hid (S3.out.grew g5)
  have S4 := Lib.hid (S4.out.grew g5)
  clear g5 G4
  go_wp2_with fail
  refine (check_ _ _ _ _ [] _ (SlL.nil _ _)).mono ?_
  rintro e w6 ⟨rfl, g6⟩
  rw [sn6]
  have g6 := g6
  have G6 := Lib.hid (Grew.trans G5.out g6)
  have S1 := Lib.hid (S1.out.grew g6)
  have S2 := Lib.hid (S2.out.grew g6)
  have S3 := Lib.hid (S3.out.grew g6)
  have S4 := Lib.hid (S4.out.grew g6)
  clear g6 G5
  go_wp2_with fail
  refine (check_ _ _ _ _ [] _ (SlL.nil _ _)).mono ?_
  rintro e w7 ⟨rfl, g7⟩
  rw [sn7]
  have g7 := g7
  have G7 := Lib.hid (Grew.trans G6.out g7)
  have S1 := Lib.hid (S1.out.grew g7)
  have S2 := Lib.hid (S2.out.grew g7)
  have S3 := Lib.hid (S3.out.grew g7)
  have S4 := Lib.hid (S4.out.grew g7)
  clear g7 G6
  go_wp2_with fail
  refine (check_ _ _ _ _ [⟨0, 1, 1, 1, 0⟩, ⟨1, 0, 1, 1, 0⟩] _ (SlL.new2 w7 0 1 1 1 0 1 0 1 1 0 _ _ rfl)).mono ?_
  rintro e w8 ⟨rfl, g8⟩
  rw [sn8]
  have g8 := (((Grew.refl w7).alloc _).trans g8)
  have G8 := Lib.hid (Grew.trans G7.out g8)
  have S1 := Lib.hid (S1.out.grew g8)
  have S2 := Lib.hid (S2.out.grew g8)
  have S3 := Lib.hid (S3.out.grew g8)
  have S4 := Lib.hid (S4.out.grew g8)
  clear g8 G7
  go_wp2_with fail
  refine (check_ _ _ _ _ [⟨0, 1, 0, 1, 0⟩, ⟨2, 1, 0, 1, 0⟩] _ (SlL.new2 w8 0 1 0 1 0 2 1 0 1 0 _ _ rfl)).mono ?_
  rintro e w9 ⟨rfl, g9⟩
  rw [sn9]
  have g9 := (((Grew.refl w8).alloc _).trans g9)
  have G9 := Lib.hid (Grew.trans G8.out g9)
  have S1 := Lib.hid (S1.out.grew g9)
  have S2 := Lib.hid (S2.out.grew g9)
  have S3 := Lib.hid (S3.out.grew g9)
  have S4 := Lib.hid (S4.out.grew g9)
  clear g9 G8
  go_wp2_with fail
  refine (check_ _ _ _ _ [⟨0, 0, 0, 1, 0⟩] _ (SlL.new1 w9 0 0 0 1 0 _ _ rfl)).mono ?_
  rintro e w10 ⟨rfl, g10⟩
  rw [sn10]
  have g10 := (((Grew.refl w9).alloc _).trans g10)
  have G10 := Lib.hid (Grew.trans G9.out g10)
  have S1 := Lib.hid (S1.out.grew g10)
  have S2 := Lib.hid (S2.out.grew g10)
  have S3 := Lib.hid (S3.out.grew g10)
  have S4 := Lib.hid (S4.out.grew g10)
  clear g10 G9
  go_wp2_with fail
  refine (same_ _ _ _ _ _ _ [1, 2, 0] [1, 2, 0] _ (S1.out.grew ((Grew.refl _).alloc _)) (Sl.new' _ [1, 2, 0] _ _ rfl) (by have := S1.out.1; simp at this; omega)).mono ?_
  rintro e w11 ⟨rfl, g11⟩
  have g11 := (((Grew.refl w10).alloc _).trans g11)
  have G11 := Lib.hid (Grew.trans G10.out g11)
  have S2 := Lib.hid (S2.out.grew g11)
  have S3 := Lib.hid (S3.out.grew g11)
  have S4 := Lib.hid (S4.out.grew g11)
  clear g11 G10 S1
  go_wp2_with fail
  refine (same_ _ _ _ _ _ _ [0, 1, 2] [0, 1, 2] _ (S2.out.grew ((Grew.refl _).alloc _)) (Sl.new' _ [0, 1, 2] _ _ rfl) (by have := S2.out.1; simp at this; omega)).mono ?_
  rintro e w12 ⟨rfl, g12⟩
  have g12 := (((Grew.refl w11).alloc _).trans g12)
  have G12 := Lib.hid (Grew.trans G11.out g12)
  have S3 := Lib.hid (S3.out.grew g12)
  have S4 := Lib.hid (S4.out.grew g12)
  clear g12 G11 S2
  go_wp2_with fail
  refine (same_ _ _ _ _ _ _ [0, -7] [0, -7] _ (S3.out.grew ((Grew.refl _).alloc _)) (Sl.new' _ [0, -7] _ _ rfl) (by have := S3.out.1; simp at this; omega)).mono ?_
  rintro e w13 ⟨rfl, g13⟩
  have g13 := (((Grew.refl w12).alloc _).trans g13)
  have G13 := Lib.hid (Grew.trans G12.out g13)
  have S4 := Lib.hid (S4.out.grew g13)
  clear g13 G12 S3
  go_wp2_with fail
  refine (same_ _ _ _ _ _ _ [-2147483648, 2147483647, -2147483648] [-2147483648, 2147483647, -2147483648] _ (S4.out.grew ((Grew.refl _).alloc _)) (Sl.new' _ [-2147483648, 2147483647, -2147483648] _ _ rfl) (by have := S4.out.1; simp at this; omega)).mono ?_
  rintro e w14 ⟨rfl, g14⟩
  have g14 := (((Grew.refl w13).alloc _).trans g14)
  have G14 := Lib.hid (Grew.trans G13.out g14)
  clear g14 G13 S4
  go_wp2
  go_ret
  exact ⟨rfl, G14.out⟩
end Go.Proofs.Ytnihkdmdbmnniaa
