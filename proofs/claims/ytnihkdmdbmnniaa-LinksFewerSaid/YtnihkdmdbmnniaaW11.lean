/- ref.formed. -/
import Derived.Test.YtnihkdmdbmnniaaW10
set_option linter.unusedSimpArgs false
namespace Go.Proofs.Ytnihkdmdbmnniaa
open Go.RowKit

theorem okL_iff (n : Int) (x : Lk) : okL n x = true ↔ (0 ≤ x.fr ∧ x.fr ≤ n - 1) ∧ (0 ≤ x.to ∧ x.to ≤ n - 1) ∧ x.fr ≠ x.to ∧ (-2147483647 ≤ x.num ∧ x.num ≤ 2147483647) ∧ (1 ≤ x.den ∧ x.den ≤ 2147483647) ∧ (-2147483648 ≤ x.add ∧ x.add ≤ 2147483647) := by
  refine ⟨okL_spec, fun h => ?_⟩
  simp only [okL, inB, Bool.and_eq_true, decide_eq_true_eq, bne_iff_ne]
  exact ⟨⟨⟨⟨⟨h.1, h.2.1⟩, h.2.2.1⟩, h.2.2.2.1⟩, h.2.2.2.2.1⟩, h.2.2.2.2.2⟩

theorem badL_of_not {n : Int} {ls : List Lk} {x : Lk} (h : x ∈ ls) (hx : ¬ okL n x = true) : badL n ls = true := by
  cases hb : badL n ls with
  | true => rfl
  | false => exact absurd ((badL_spec hb).2 x h) hx

theorem badL_of_dup {n : Int} {ls : List Lk} {j k : Nat} (hjk : j < k) (hk : k < ls.length) (he : (ls.getD j Lk.z).to = (ls.getD k Lk.z).to) : badL n ls = true := by
  cases hb : badL n ls with
  | true => rfl
  | false =>
    have hnd := (mapOf_len ls).2.1 (badL_spec hb).1
    exfalso
    have := (List.pairwise_iff_getElem.1 hnd) j k (by simp; omega) (by simpa using hk) hjk
    apply this
    simp only [List.getElem_map]
    simpa [List.getD, List.getElem?_eq_getElem (show j < ls.length by omega), List.getElem?_eq_getElem hk] using he

theorem badL_of_all {n : Int} {ls : List Lk} (h1 : ∀ x ∈ ls, okL n x = true) (h2 : (ls.map Lk.to).Nodup) : badL n ls = false := by
  unfold badL
  rw [decide_eq_true ((mapOf_len ls).2.2 h2), List.all_eq_true.2 h1]
  rfl

/-- What formed has seen after k links. -/
def Fd (n : Int) (ls : List Lk) (k : Nat) : Prop := (∀ j, j < k → okL n (ls.getD j Lk.z) = true) ∧ ∀ i j, i < j → j < k → (ls.getD i Lk.z).to ≠ (ls.getD j Lk.z).to

theorem Fd.zero (n : Int) (ls : List Lk) : Fd n ls 0 := ⟨fun j h => absurd h (by omega), fun i j _ h => absurd h (by omega)⟩
theorem Fd.succ {n : Int} {ls : List Lk} {k : Nat} (h : Fd n ls k) (h1 : okL n (ls.getD k Lk.z) = true) (h2 : ∀ q, q < k → (ls.getD q Lk.z).to ≠ (ls.getD k Lk.z).to) : Fd n ls (k + 1) := by
  refine ⟨fun j hj => ?_, fun i j hij hj => ?_⟩
  · rcases Nat.lt_or_ge j k with h' | h'
    · exact h.1 j h'
    · obtain rfl : j = k := by omega
      exact h1
  · rcases Nat.lt_or_ge j k with h' | h'
    · exact h.2 i j hij h'
    · obtain rfl : j = k := by omega
      exact h2 i hij
theorem Fd.all {n : Int} {ls : List Lk} (h : Fd n ls ls.length) : badL n ls = false := by
  refine badL_of_all (fun x hx => ?_) ?_
  · obtain ⟨i, hi, rfl⟩ := List.getElem_of_mem hx
    have := h.1 i hi
    simpa [List.getD, hi] using this
  · refine List.pairwise_iff_getElem.2 fun i j hi hj hij he => ?_
    simp only [List.length_map] at hi hj
    refine h.2 i j hij hj ?_
    simp only [List.getElem_map] at he
    simpa [List.getD, List.getElem?_eq_getElem hi, List.getElem?_eq_getElem hj] using he

set_option maxRecDepth 100000 in
set_option maxHeartbeats 2000000 in
theorem formed_ (n : Int) (A : Option Addr) (m c : Nat) (ls : List Lk) (w : World) (hs : SlL w A m ls) (hm : m ≤ 256) :
    Calls Try.prog 20 #[.int .i64 n, .slice A m c] w fun e w' => e = .returned (.bool (!badL n ls)) ∧ Grew w w' := by
  have HS := Lib.hid hs
  clear hs
  go_enter Try.func20, Try.ntmps20
  go_wp2
  go_loopw [5] (fun i wr => ∃ k : Nat, k ≤ m ∧ i = .int .i64 k ∧ Grew w wr ∧ Hid (Fd n ls k)) (fun i _ => m - (intOf i).toNat)
  case atStart => exact ⟨0, Nat.zero_le _, rfl, Grew.refl _, Fd.zero _ _⟩
  case round =>
    obtain ⟨k, hk, rfl, hg1, hfd⟩ := hrel
    by_cases hlt : k < m
    · have HKL : Hid (k < ls.length) := by show k < ls.length; rw [HS.out.1]; exact hlt
      have hxm : ls.getD k Lk.z ∈ ls := by simp [List.getD, HKL.out]
      obtain ⟨b, off, hA, hb, hcell⟩ := (HS.out.grew hg1).2 (by omega)
      obtain ⟨c0, c1, c2, c3, c4⟩ := hcell k hlt
      rw [hA]
      have HCL := Lib.hid hcell
      have HXK : Hid (∃ y, y = ls.getD k Lk.z) := ⟨_, rfl⟩
      obtain ⟨x, hx⟩ := HXK.out
      rw [← hx] at hxm c0 c1 c2 c3 c4
      have HX := Lib.hid hx
      clear hx HXK hcell hA
      by_cases t0 : x.fr < 0
      · have HBAD := Lib.hid (badL_of_not hxm (by rw [okL_iff]; omega) : badL n ls = true)
        clear hxm
        go_wp2
        go_ret
        exact ⟨by rw [HBAD.out]; rfl, hg1.trans ((Grew.refl wr).alloc _)⟩
      by_cases t1 : n ≤ x.fr
      · have HBAD := Lib.hid (badL_of_not hxm (by rw [okL_iff]; omega) : badL n ls = true)
        clear hxm
        go_wp2
        go_ret
        exact ⟨by rw [HBAD.out]; rfl, hg1.trans ((Grew.refl wr).alloc _)⟩
      by_cases t2 : x.to < 0
      · have HBAD := Lib.hid (badL_of_not hxm (by rw [okL_iff]; omega) : badL n ls = true)
        clear hxm
        go_wp2
        go_ret
        exact ⟨by rw [HBAD.out]; rfl, hg1.trans ((Grew.refl wr).alloc _)⟩
      by_cases t3 : n ≤ x.to
      · have HBAD := Lib.hid (badL_of_not hxm (by rw [okL_iff]; omega) : badL n ls = true)
        clear hxm
        go_wp2
        go_ret
        exact ⟨by rw [HBAD.out]; rfl, hg1.trans ((Grew.refl wr).alloc _)⟩
      by_cases t4 : x.fr = x.to
      · have HBAD := Lib.hid (badL_of_not hxm (by rw [okL_iff]; omega) : badL n ls = true)
        clear hxm
        go_wp2
        go_ret
        exact ⟨by rw [HBAD.out]; rfl, hg1.trans ((Grew.refl wr).alloc _)⟩
      by_cases t5 : x.num < -2147483647
      · have HBAD := Lib.hid (badL_of_not hxm (by rw [okL_iff]; omega) : badL n ls = true)
        clear hxm
        go_wp2
        go_ret
        exact ⟨by rw [HBAD.out]; rfl, hg1.trans ((Grew.refl wr).alloc _)⟩
      by_cases t6 : 2147483647 < x.num
      · have HBAD := Lib.hid (badL_of_not hxm (by rw [okL_iff]; omega) : badL n ls = true)
        clear hxm
        go_wp2
        go_ret
        exact ⟨by rw [HBAD.out]; rfl, hg1.trans ((Grew.refl wr).alloc _)⟩
      by_cases t7 : x.den < 1
      · have HBAD := Lib.hid (badL_of_not hxm (by rw [okL_iff]; omega) : badL n ls = true)
        clear hxm
        go_wp2
        go_ret
        exact ⟨by rw [HBAD.out]; rfl, hg1.trans ((Grew.refl wr).alloc _)⟩
      by_cases t8 : 2147483647 < x.den
      · have HBAD := Lib.hid (badL_of_not hxm (by rw [okL_iff]; omega) : badL n ls = true)
        clear hxm
        go_wp2
        go_ret
        exact ⟨by rw [HBAD.out]; rfl, hg1.trans ((Grew.refl wr).alloc _)⟩
      by_cases t9 : x.add < -2147483648
      · have HBAD := Lib.hid (badL_of_not hxm (by rw [okL_iff]; omega) : badL n ls = true)
        clear hxm
        go_wp2
        go_ret
        exact ⟨by rw [HBAD.out]; rfl, hg1.trans ((Grew.refl wr).alloc _)⟩
      by_cases t10 : 2147483647 < x.add
      · have HBAD := Lib.hid (badL_of_not hxm (by rw [okL_iff]; omega) : badL n ls = true)
        clear hxm
        go_wp2
        go_ret
        exact ⟨by rw [HBAD.out]; rfl, hg1.trans ((Grew.refl wr).alloc _)⟩
      have HOK := Lib.hid ((okL_iff n x).2 (by omega))
      go_wp2_with fail
      rename World => wx
      clear t0 t1 t2 t3 t4 t5 t6 t7 t8 t9 t10 c0 c1 c2 c3 c4
      go_loopw [7] (fun i wr => ∃ q : Nat, q ≤ k ∧ i = .int .i64 q ∧ Grew (wx.alloc (.cells #[.int .i64 x.fr, .int .i64 x.to, .int .i64 x.num, .int .i64 x.den, .int .i64 x.add] 34)) wr ∧ Hid (∀ j, j < q → (ls.getD j Lk.z).to ≠ x.to)) (fun i _ => k - (intOf i).toNat)
      case atStart => exact ⟨0, Nat.zero_le _, rfl, Grew.refl _, fun j h => absurd h (by omega)⟩
      case round =>
        obtain ⟨q, hq, rfl, hg2, hno⟩ := hrel
        by_cases hlt2 : q < k
        · have hgx : Grew wx wr := ((Grew.refl wx).alloc _).trans hg2
          have hsz := hg2.size
          have hsz1 : (wx.alloc (.cells #[.int .i64 x.fr, .int .i64 x.to, .int .i64 x.num, .int .i64 x.den, .int .i64 x.add] 34)).heap.size = wx.heap.size + 1 := by simp
          have HCX : Hid (∀ {w' : World}, Grew wr w' → w'.cell? ⟨wx.heap.size, 1, none⟩ = some (.int .i64 x.to)) := fun h => by
            rw [h.cell (by omega), hg2.cell (by omega), cell_new]; rfl
          have hcq := (HCL.out q (by omega)).2.1
          by_cases he : (ls.getD q Lk.z).to = x.to
          · rw [he] at hcq
            have HCQ : Hid (∀ {w' : World}, Grew wr w' → w'.cell? ⟨b, off + q * 5 + 1, none⟩ = some (.int .i64 x.to)) := fun h => by
              rw [h.cell (by omega), hgx.cell hb]; exact hcq
            rw [HX.out] at he
            have HBAD := Lib.hid (badL_of_dup (n := n) hlt2 HKL.out he)
            clear he hcq hsz1
            go_wp2_with fail
            refine RG.wp_region_rg 8 (fun a b => Grew a b) [fun u _ => u = .slice (some ⟨b, off, none⟩) m c, fun u _ => u = .int .i64 q, fun u _ => u = .pointer (some ⟨b, off + q * 5, none⟩), fun u _ => u = .pointer (some ⟨b, off + q * 5 + 1, none⟩), fun u _ => u = .int .i64 x.to, fun u _ => u = .pointer (some ⟨wx.heap.size, 1, none⟩), fun u _ => u = .int .i64 x.to, fun u _ => u = .bool true] Try.mixed (by kernel_rfl) rfl (Grew.refl _) (fun _ _ _ a b => a.trans b) ?stA ?obA ?finA
            case stA => exact ⟨fun _ _ _ _ h _ => h, fun _ _ _ _ h _ => h, fun _ _ _ _ h _ => h, fun _ _ _ _ h _ => h, fun _ _ _ _ h _ => h, fun _ _ _ _ h _ => h, fun _ _ _ _ h _ => h, fun _ _ _ _ h _ => h, trivial⟩
            case obA =>
              refine ⟨fun w' hR => ?_, fun w' hR => ?_, fun w' hR => ?_, fun w' hR => ?_, fun w' hR => ?_, fun w' hR => ?_, fun w' hR => ?_, fun w' hR => ?_, trivial⟩
              · show wpList _ _ _ _ _ _
                go_wp2
                exact ⟨_, rfl, rfl, Grew.refl _⟩
              · rintro v0
                show wpList _ _ _ _ _ _
                simp only [Act.put, List.setIfInBounds_toArray, List.set_cons_succ, List.set_cons_zero]
                go_wp2
                exact ⟨_, rfl, rfl, Grew.refl _⟩
              · rintro _ rfl _ rfl
                show wpList _ _ _ _ _ _
                simp only [Act.put, List.setIfInBounds_toArray, List.set_cons_succ, List.set_cons_zero]
                go_wp2
                exact ⟨_, rfl, rfl, Grew.refl _⟩
              · rintro v0 v1 _ rfl
                show wpList _ _ _ _ _ _
                simp only [Act.put, List.setIfInBounds_toArray, List.set_cons_succ, List.set_cons_zero]
                go_wp2
                exact ⟨_, rfl, rfl, Grew.refl _⟩
              · rintro v0 v1 v2 _ rfl
                show wpList _ _ _ _ _ _
                simp only [Act.put, List.setIfInBounds_toArray, List.set_cons_succ, List.set_cons_zero]
                have hR := Grew.of_drew hR
                have hcc := (HCQ.out hR)
                go_wp2
                exact ⟨_, rfl, rfl, Grew.refl _⟩
              · rintro v0 v1 v2 v3 v4
                show wpList _ _ _ _ _ _
                simp only [Act.put, List.setIfInBounds_toArray, List.set_cons_succ, List.set_cons_zero]
                go_wp2
                exact ⟨_, rfl, rfl, Grew.refl _⟩
              · rintro v0 v1 v2 v3 v4 _ rfl
                show wpList _ _ _ _ _ _
                simp only [Act.put, List.setIfInBounds_toArray, List.set_cons_succ, List.set_cons_zero]
                have hR := Grew.of_drew hR
                have hcc := (HCX.out hR)
                go_wp2
                exact ⟨_, rfl, rfl, Grew.refl _⟩
              · rintro v0 v1 v2 v3 _ rfl v5 _ rfl
                show wpList _ _ _ _ _ _
                simp only [Act.put, List.setIfInBounds_toArray, List.set_cons_succ, List.set_cons_zero]
                go_wp2
                exact ⟨_, rfl, congrArg Value.bool (by simp), Grew.refl _⟩
            case finA =>
              rintro w' hR _ rfl _ rfl _ rfl _ rfl _ rfl _ rfl _ rfl _ rfl
              show wpList _ _ _ _ _ _
              simp only [Act.put, List.setIfInBounds_toArray, List.set_cons_succ, List.set_cons_zero, List.drop_succ_cons, List.drop_zero, List.drop_nil]
              have hR := Grew.of_drew hR
              go_wp2
              go_ret
              exact ⟨by rw [HBAD.out]; rfl, (hg1.trans (((Grew.refl wx).alloc _).trans hg2)).trans hR⟩
          · obtain ⟨y, hy⟩ : ∃ y, (ls.getD q Lk.z).to = y := ⟨_, rfl⟩
            have HNX : Hid (∀ j, j < q + 1 → (ls.getD j Lk.z).to ≠ x.to) := fun j hj => by
              rcases Nat.lt_or_ge j q with h | h
              · exact hno.out j h
              · obtain rfl : j = q := by omega
                exact he
            rw [hy] at hcq he
            have HNE := Lib.hid he
            have HCQ : Hid (∀ {w' : World}, Grew wr w' → w'.cell? ⟨b, off + q * 5 + 1, none⟩ = some (.int .i64 y)) := fun h => by
              rw [h.cell (by omega), hgx.cell hb]; exact hcq
            clear he hcq hy hsz1
            go_wp2_with fail
            refine RG.wp_region_rg 8 (fun a b => Grew a b) [fun u _ => u = .slice (some ⟨b, off, none⟩) m c, fun u _ => u = .int .i64 q, fun u _ => u = .pointer (some ⟨b, off + q * 5, none⟩), fun u _ => u = .pointer (some ⟨b, off + q * 5 + 1, none⟩), fun u _ => u = .int .i64 y, fun u _ => u = .pointer (some ⟨wx.heap.size, 1, none⟩), fun u _ => u = .int .i64 x.to, fun u _ => u = .bool false] Try.mixed (by kernel_rfl) rfl (Grew.refl _) (fun _ _ _ a b => a.trans b) ?stB ?obB ?finB
            case stB => exact ⟨fun _ _ _ _ h _ => h, fun _ _ _ _ h _ => h, fun _ _ _ _ h _ => h, fun _ _ _ _ h _ => h, fun _ _ _ _ h _ => h, fun _ _ _ _ h _ => h, fun _ _ _ _ h _ => h, fun _ _ _ _ h _ => h, trivial⟩
            case obB =>
              refine ⟨fun w' hR => ?_, fun w' hR => ?_, fun w' hR => ?_, fun w' hR => ?_, fun w' hR => ?_, fun w' hR => ?_, fun w' hR => ?_, fun w' hR => ?_, trivial⟩
              · show wpList _ _ _ _ _ _
                go_wp2
                exact ⟨_, rfl, rfl, Grew.refl _⟩
              · rintro v0
                show wpList _ _ _ _ _ _
                simp only [Act.put, List.setIfInBounds_toArray, List.set_cons_succ, List.set_cons_zero]
                go_wp2
                exact ⟨_, rfl, rfl, Grew.refl _⟩
              · rintro _ rfl _ rfl
                show wpList _ _ _ _ _ _
                simp only [Act.put, List.setIfInBounds_toArray, List.set_cons_succ, List.set_cons_zero]
                go_wp2
                exact ⟨_, rfl, rfl, Grew.refl _⟩
              · rintro v0 v1 _ rfl
                show wpList _ _ _ _ _ _
                simp only [Act.put, List.setIfInBounds_toArray, List.set_cons_succ, List.set_cons_zero]
                go_wp2
                exact ⟨_, rfl, rfl, Grew.refl _⟩
              · rintro v0 v1 v2 _ rfl
                show wpList _ _ _ _ _ _
                simp only [Act.put, List.setIfInBounds_toArray, List.set_cons_succ, List.set_cons_zero]
                have hR := Grew.of_drew hR
                have hcc := (HCQ.out hR)
                go_wp2
                exact ⟨_, rfl, rfl, Grew.refl _⟩
              · rintro v0 v1 v2 v3 v4
                show wpList _ _ _ _ _ _
                simp only [Act.put, List.setIfInBounds_toArray, List.set_cons_succ, List.set_cons_zero]
                go_wp2
                exact ⟨_, rfl, rfl, Grew.refl _⟩
              · rintro v0 v1 v2 v3 v4 _ rfl
                show wpList _ _ _ _ _ _
                simp only [Act.put, List.setIfInBounds_toArray, List.set_cons_succ, List.set_cons_zero]
                have hR := Grew.of_drew hR
                have hcc := (HCX.out hR)
                go_wp2
                exact ⟨_, rfl, rfl, Grew.refl _⟩
              · rintro v0 v1 v2 v3 _ rfl v5 _ rfl
                show wpList _ _ _ _ _ _
                simp only [Act.put, List.setIfInBounds_toArray, List.set_cons_succ, List.set_cons_zero]
                go_wp2
                exact ⟨_, rfl, congrArg Value.bool (by simpa using HNE.out), Grew.refl _⟩
            case finB =>
              rintro w' hR _ rfl _ rfl _ rfl _ rfl _ rfl _ rfl _ rfl _ rfl
              show wpList _ _ _ _ _ _
              simp only [Act.put, List.setIfInBounds_toArray, List.set_cons_succ, List.set_cons_zero, List.drop_succ_cons, List.drop_zero, List.drop_nil]
              have hR := Grew.of_drew hR
              go_wp2
              go_roundw
              case rel => exact ⟨q + 1, by omega, by go_num, hg2.trans hR, HNX.out⟩
              case measure => simp [intOf]; omega
        · have HFN : Hid (Fd n ls (k + 1)) := by
            refine hfd.out.succ (by rw [← HX.out]; exact HOK.out) fun q' hq' => ?_
            rw [← HX.out]
            exact hno.out q' (by omega)
          have HG : Hid (Grew w wr) := hg1.trans (((Grew.refl wx).alloc _).trans hg2)
          go_wp2
          go_roundw
          case rel => exact ⟨k + 1, by omega, by go_num, HG.out, HFN⟩
          case measure => simp [intOf]; omega
    · have HE : Hid (badL n ls = false) := by
        have h := hfd.out
        obtain rfl : k = m := by omega
        rw [← HS.out.1] at h
        exact h.all
      go_wp2
      go_ret
      exact ⟨by rw [HE.out]; rfl, hg1⟩
end Go.Proofs.Ytnihkdmdbmnniaa
