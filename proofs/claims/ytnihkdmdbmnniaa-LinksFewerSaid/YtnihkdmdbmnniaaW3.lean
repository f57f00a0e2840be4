/- The contract of the closure that finds the next parameter. -/
import Derived.Test.YtnihkdmdbmnniaaPlain
namespace Go.Proofs.Ytnihkdmdbmnniaa
open Go.RowKit

theorem zero34 (w : World) : (zeroValue 34).run Try.prog w = .ok Lk.z.v w := by kernel_rfl
theorem zero4 (w : World) : (zeroValue 4).run Try.prog w = .ok (.bool false) w := by kernel_rfl

/-- What the closure's variables hold. -/
structure NX (w : World) (Bn Bm Bl r rl : Nat) (n : Int) (ls : List Lk) (os : List Int) : Prop where
  cn : w.cell? ⟨Bn, 0, none⟩ = some (.int .i64 n)
  cm : w.cell? ⟨Bm, 0, none⟩ = some (.map (some r))
  cl : w.cell? ⟨Bl, 0, none⟩ = some (.map (some rl))
  bn : Bn < w.heap.size
  bm : Bm < w.heap.size
  bl : Bl < w.heap.size
  m : IMap w r (mapOf ls)
  l : IMap w rl (lm os)

theorem NX.grew {w w' : World} {Bn Bm Bl r rl : Nat} {n : Int} {ls : List Lk} {os : List Int} (h : NX w Bn Bm Bl r rl n ls os) (g : Grew w w') : NX w' Bn Bm Bl r rl n ls os :=
  ⟨(g.cell h.bn).trans h.cn, (g.cell h.bm).trans h.cm, (g.cell h.bl).trans h.cl, Nat.lt_of_lt_of_le h.bn g.size, Nat.lt_of_lt_of_le h.bm g.size, Nat.lt_of_lt_of_le h.bl g.size, h.m.grew g, h.l.grew g⟩

def nextV : Option Nat → Value
  | some p => .tuple #[.int .i64 p, .bool true]
  | none => .tuple #[.int .i64 0, .bool false]

theorem find_take (ls : List Lk) (os : List Int) (n k : Nat) (hk : k < n) (h : ∀ j, j < k → rdy ls os j = false) (hr : rdy ls os k = true) : nextF ls os n = some k := by
  unfold nextF
  rw [List.find?_range_eq_some]
  exact ⟨hr, List.mem_range.2 hk, fun j hj => by simp [h j hj]⟩

theorem find_none (ls : List Lk) (os : List Int) (n : Nat) (h : ∀ j, j < n → rdy ls os j = false) : nextF ls os n = none := by
  unfold nextF
  rw [List.find?_eq_none]
  intro p hp
  simp [h p (List.mem_range.1 hp)]

theorem all_next {ls : List Lk} {os : List Int} {k : Nat} (h : ∀ j : Nat, j < k → rdy ls os j = false) (hk : rdy ls os k = false) : ∀ j : Nat, j < k + 1 → rdy ls os j = false := by
  intro j hj
  rcases Nat.lt_or_ge j k with h' | h'
  · exact h j h'
  · have : j = k := by omega
    subst this
    exact hk

set_option maxHeartbeats 1000000 in
theorem next_ (Bn Bm Bl r rl n : Nat) (ls : List Lk) (os : List Int) (w : World) (hx : NX w Bn Bm Bl r rl n ls os) (hn : n ≤ 256) :
    Calls Try.prog 26 #[.pointer (some ⟨Bn, 0, none⟩), .pointer (some ⟨Bm, 0, none⟩), .pointer (some ⟨Bl, 0, none⟩)] w fun e w' => e = .returned (nextV (nextF ls os n)) ∧ Grew w w' := by
  have HX := Lib.hid hx
  have hcn := hx.cn
  clear hx
  go_enter Try.func26, Try.ntmps26
  go_wp2
  go_loopw [9] (fun i wr => ∃ k : Nat, k ≤ n ∧ i = .int .i64 k ∧ Hid (∀ j : Nat, j < k → rdy ls os j = false) ∧ Grew w wr) (fun i _ => n - (intOf i).toNat)
  case atStart => exact ⟨0, Nat.zero_le _, rfl, fun j hj => absurd hj (by omega), Grew.refl _⟩
  case round =>
    obtain ⟨k, hk, rfl, ha, hg⟩ := hrel
    by_cases hlt : k < n
    · have hx := HX.out.grew hg
      have hcm := hx.cm
      have hcl := hx.cl
      have bm := hx.bm
      have bl := hx.bl
      have e1 := run_look (P := Try.prog) hx.m 42 3 34 Try.underlying42 Try.underlying3 Lk.z.v zero34 k true
      rw [mlook_mapOf] at e1
      have HM := Lib.hid hx.l
      have HR : Hid (rdy ls os k = (!decide ((k : Int) ∈ os) && (match src ls k with | none => true | some x => decide (x.fr ∈ os)))) := rfl
      clear hx hcn
      cases hsrc : src ls k with
      | none =>
        rw [hsrc] at e1 HR
        unfold Lk.z Lk.v at e1
        dsimp only [Option.map_none, Option.getD_none, Option.isSome_none, if_true] at e1
        clear hsrc
        have e2 := run_look (P := Try.prog) (HM.out.alloc (.cells #[.int .i64 0, .int .i64 0, .int .i64 0, .int .i64 0, .int .i64 0] 34)) 47 3 4 Try.underlying47 Try.underlying3 (.bool false) zero4 k false
        rw [mlook_lm] at e2
        by_cases hin : (k : Int) ∈ os
        · rw [if_pos hin] at e2
          simp only [Option.getD_some, if_neg (show ¬ (false = true) by simp)] at e2
          have HRF : Hid (rdy ls os k = false) := by rw [HR.out]; simp [hin, Hid]
          clear HR hin
          go_wp2
          go_roundw
          case rel => exact ⟨k + 1, by omega, by go_num, all_next ha.out HRF.out, hg.alloc _⟩
          case measure => simp [intOf]; omega
        · rw [if_neg hin] at e2
          simp only [Option.getD_none, if_neg (show ¬ (false = true) by simp)] at e2
          have HRT := Lib.hid (find_take ls os n k hlt ha.out (by rw [HR.out]; simp [hin]))
          clear HR hin
          go_wp2
          go_ret2
          exact ⟨by rw [HRT.out]; rfl, hg.alloc _⟩
      | some x =>
        rw [hsrc] at e1 HR
        unfold Lk.z Lk.v at e1
        dsimp only [Option.map_some, Option.getD_some, Option.isSome_some, if_true] at e1
        clear hsrc
        have e2 := run_look (P := Try.prog) (HM.out.alloc (.cells #[.int .i64 x.fr, .int .i64 x.to, .int .i64 x.num, .int .i64 x.den, .int .i64 x.add] 34)) 47 3 4 Try.underlying47 Try.underlying3 (.bool false) zero4 k false
        rw [mlook_lm] at e2
        by_cases hin : (k : Int) ∈ os
        · rw [if_pos hin] at e2
          simp only [Option.getD_some, if_neg (show ¬ (false = true) by simp)] at e2
          have HRF : Hid (rdy ls os k = false) := by rw [HR.out]; simp [hin, Hid]
          clear HR hin
          go_wp2
          go_roundw
          case rel => exact ⟨k + 1, by omega, by go_num, all_next ha.out HRF.out, hg.alloc _⟩
          case measure => simp [intOf]; omega
        · rw [if_neg hin] at e2
          simp only [Option.getD_none, if_neg (show ¬ (false = true) by simp)] at e2
          have e3 := run_look (P := Try.prog) (HM.out.alloc (.cells #[.int .i64 x.fr, .int .i64 x.to, .int .i64 x.num, .int .i64 x.den, .int .i64 x.add] 34)) 47 3 4 Try.underlying47 Try.underlying3 (.bool false) zero4 x.fr false
          rw [mlook_lm] at e3
          by_cases hfr : x.fr ∈ os
          · rw [if_pos hfr] at e3
            simp only [Option.getD_some, if_neg (show ¬ (false = true) by simp)] at e3
            have HRT := Lib.hid (find_take ls os n k hlt ha.out (by rw [HR.out]; simp [hin, hfr]))
            clear HR hin hfr
            go_wp2
            go_ret2
            exact ⟨by rw [HRT.out]; rfl, hg.alloc _⟩
          · rw [if_neg hfr] at e3
            simp only [Option.getD_none, if_neg (show ¬ (false = true) by simp)] at e3
            have HRF : Hid (rdy ls os k = false) := by rw [HR.out]; simp [hfr, Hid]
            clear HR hin hfr
            go_wp2
            go_roundw
            case rel => exact ⟨k + 1, by omega, by go_num, all_next ha.out HRF.out, hg.alloc _⟩
            case measure => simp [intOf]; omega
    · have HE := Lib.hid (find_none ls os n (fun j hj => ha.out j (by omega)))
      clear hcn
      go_wp2
      go_ret2
      exact ⟨by rw [HE.out]; rfl, hg⟩

end Go.Proofs.Ytnihkdmdbmnniaa
