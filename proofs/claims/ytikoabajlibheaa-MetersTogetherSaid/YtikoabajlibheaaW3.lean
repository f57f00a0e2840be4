/- Contracts of Hold: the closure and the loop; the reference's loop. -/
import Derived.Test.YtikoabajlibheaaW2
import Derived.Test.YtikoabajlibheaaRG
import Derived.Maps.AppendAt
namespace Go.Proofs.Ytikoabajlibheaa
open Go.RowKit

theorem Grew.of_drew {w w' : World} (h : Grew w.drew w') : Grew w w' := ⟨h.os, h.tape, h.output, h.size, h.block⟩

/-- The next held size. -/
def hold1 (f h x : Int) : Int := mx (mx (sz x) (h - f)) 0

theorem Try.mixed : Try.prog.follows .mixedOrders = true := by kernel_rfl

set_option maxHeartbeats 400000 in
theorem hold_next (x h f : Int) (Bh Bf : Nat) (w : World) (hh : w.cell? ⟨Bh, 0, none⟩ = some (.int .i64 h)) (hf : w.cell? ⟨Bf, 0, none⟩ = some (.int .i64 f))
    (hz : w.frozen? ⟨Bh, 0, none⟩ = false) (b1 : Bh < w.heap.size) (b2 : Bf < w.heap.size) (h0 : 0 ≤ h) (h1 : h ≤ 2147483648) (f0 : 0 ≤ f) (f1 : f ≤ 2147483648) :
    Calls Try.prog 22 #[.int .i64 x, .pointer (some ⟨Bh, 0, none⟩), .pointer (some ⟨Bf, 0, none⟩)] w fun e w' =>
      e = .returned (.int .i64 (hold1 f h x)) ∧ ∃ w1, Grew w w1 ∧ w' = w1.setCell ⟨Bh, 0, none⟩ (.int .i64 (hold1 f h x)) := by
  go_enter Try.func22, Try.ntmps22
  go_wp2
  refine RG.wp_region_rg 7 (fun a b => Grew a b) [fun v _ => v = .int .i64 x, fun v _ => v = .int .i64 (sz x), fun v _ => v = .int .i64 h, fun v _ => v = .int .i64 f, fun v _ => v = .int .i64 (h - f),
    fun v w => ∃ b, v = .slice (some ⟨b, 0, none⟩) 2 2 ∧ Sl w (some ⟨b, 0, none⟩) 2 [h - f, 0], fun v _ => v = .int .i64 (hold1 f h x)] Try.mixed (by kernel_rfl) rfl (Grew.refl _) (fun _ _ _ a b => a.trans b) ?st ?ob ?fin
  case st => 
    refine ⟨fun _ _ _ _ h _ => h, fun _ _ _ _ h _ => h, fun _ _ _ _ h _ => h, fun _ _ _ _ h _ => h, fun _ _ _ _ h _ => h, fun _ _ _ _ h g => ?_, fun _ _ _ _ h _ => h, trivial⟩
    obtain ⟨b, e, hs⟩ := h
    exact ⟨b, e, hs.grew g⟩
  case ob =>
    refine ⟨fun w' hR => ?_, fun w' hR => ?_, fun w' hR => ?_, fun w' hR => ?_, fun w' hR => ?_, fun w' hR => ?_, fun w' hR => ?_, trivial⟩
    · show wpList _ _ _ _ _ _
      go_wp2
      exact ⟨_, rfl, rfl, Grew.refl _⟩
    · rintro _ rfl
      show wpList _ _ _ _ _ _
      simp only [Act.put, List.setIfInBounds_toArray, List.set_cons_succ, List.set_cons_zero]
      go_wp2_with (go_at_call 24; refine (size_ _ _).mono ?_; rintro e w1 ⟨rfl, hg1⟩)
      exact ⟨_, rfl, rfl, hg1⟩
    · rintro v0 v1
      show wpList _ _ _ _ _ _
      simp only [Act.put, List.setIfInBounds_toArray, List.set_cons_succ, List.set_cons_zero]
      have hc := (Grew.cell hR (o := 0) b1).trans hh
      go_wp2
      exact ⟨_, rfl, rfl, Grew.refl _⟩
    · rintro v0 v1 v2
      show wpList _ _ _ _ _ _
      simp only [Act.put, List.setIfInBounds_toArray, List.set_cons_succ, List.set_cons_zero]
      have hc := (Grew.cell hR (o := 0) b2).trans hf
      go_wp2
      exact ⟨_, rfl, rfl, Grew.refl _⟩
    · rintro v0 v1 _ rfl _ rfl
      show wpList _ _ _ _ _ _
      simp only [Act.put, List.setIfInBounds_toArray, List.set_cons_succ, List.set_cons_zero]
      go_wp2
      exact ⟨_, rfl, rfl, Grew.refl _⟩
    · rintro v0 v1 v2 v3 _ rfl
      show wpList _ _ _ _ _ _
      simp only [Act.put, List.setIfInBounds_toArray, List.set_cons_succ, List.set_cons_zero]
      go_wp2
      exact ⟨_, rfl, ⟨_, rfl, Sl.new _ [h - f, 0] _⟩, (Grew.refl _).alloc _⟩
    · rintro v0 _ rfl v2 v3 v4 _ ⟨b, rfl, hs⟩
      show wpList _ _ _ _ _ _
      simp only [Act.put, List.setIfInBounds_toArray, List.set_cons_succ, List.set_cons_zero]
      have HS := Lib.hid hs
      clear hs
      go_wp2_with (go_at_call 23; refine (greatest _ _ _ _ _ _ HS.out (by omega)).mono ?_; rintro e w1 ⟨rfl, rfl⟩)
      exact ⟨_, rfl, rfl, Grew.refl _⟩
  case fin =>
    rintro w' hR _ rfl _ rfl _ rfl _ rfl _ rfl _ ⟨b, rfl, _⟩ _ rfl
    show wpList _ _ _ _ _ _
    simp only [Act.put, List.setIfInBounds_toArray, List.set_cons_succ, List.set_cons_zero, List.drop_succ_cons, List.drop_zero]
    have hR := Grew.of_drew hR
    have hc := (Grew.cell hR (o := 0) b1).trans hh
    have hz1 := (Grew.frozen hR (o := 0) b1).trans hz
    have hlt : Bh < w'.heap.size := Nat.lt_of_lt_of_le b1 (Grew.size hR)
    go_wp2
    go_ret
    exact ⟨rfl, w', hR, rfl⟩

end Go.Proofs.Ytikoabajlibheaa
