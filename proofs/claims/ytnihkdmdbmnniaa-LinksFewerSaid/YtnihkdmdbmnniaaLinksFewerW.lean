/- The walk of LinksFewer. -/
import Derived.Test.YtnihkdmdbmnniaaW17
import Derived.Test.YtnihkdmdbmnniaaPlain7
import Derived.Test.YtnihkdmdbmnniaaLinksValuesSpecW
import Derived.BigQuiet
set_option linter.unusedSimpArgs false
namespace Go.Proofs.Ytnihkdmdbmnniaa
open Go.RowKit

theorem valR_ok {ls : List Lk} {vs : List Int} {n : Nat} (hn : vs.length = n) (h : (ordR n ls).2 = 0) : (valR ls vs).2 = 0 ∧ (valR ls vs).1.length = n := by
  unfold valR
  rw [hn, if_pos h]
  exact ⟨rfl, by rw [valL_length, hn]⟩

theorem valR_bad {ls : List Lk} {vs : List Int} {n : Nat} (hn : vs.length = n) (h : (ordR n ls).2 ≠ 0) : (valR ls vs).2 ≠ 0 := by
  unfold valR
  rw [hn, if_neg h]
  exact h

theorem mk_blkB {w5 : World} {base m4 : Nat} (h : w5.ownsRow base 4 1 (Value.slice (some ⟨base, 0, none⟩) m4 m4) m4 (madeCells (Value.bool false).cells (m4 * 1)).toList) : Blk w5 base 4 ((List.replicate m4 false).map Value.bool).toArray := by
  have := own_blk h
  rw [Nat.mul_one, show (Value.bool false).cells = #[Value.bool false] from rfl, toList_madeCells_one] at this
  simpa using this

theorem mk_cellB {w5 : World} {base m4 : Nat} (h : Blk w5 base 4 ((List.replicate m4 false).map Value.bool).toArray) (k : Nat) (hk : k < m4) : w5.cell? ⟨base, k, none⟩ = some (.bool ((List.replicate m4 false).getD k false)) := by
  have hcg := h.cell k
  rw [cellOfB _ _ (by rw [List.length_replicate]; omega)] at hcg
  exact hcg

set_option maxRecDepth 100000 in
set_option maxHeartbeats 2000000 in
theorem linksFewer_walk (A : Option Addr) (m c : Nat) (ls : List Lk) (hmc : m ≤ c) (B : Option Addr) (n d : Nat) (vs : List Int) (at_ : Int) (hat : 0 ≤ at_ ∧ at_ ≤ 255) (w : World) (hs : SlL w A m ls) (ht : Sl w B n vs) :
    Calls Try.prog 9 #[.slice A m c, .slice B n d, .int .u8 at_] w fun e w' => e = .returned (.bool true) ∧ Grew w w' := by
  have HS := Lib.hid hs
  have HT := Lib.hid ht
  clear hs ht
  obtain ⟨i0, hi, hz0, hz1, hz2⟩ := info_parts Try.info34
  obtain ⟨i4, hi4, hy0, hy1, hy2⟩ := info_parts Try.info4
  go_enter Try.func9, Try.ntmps9
  go_wp2_with fail
  refine (sane _).mono ?_
  rintro e w1 ⟨rfl, g1⟩
  by_cases h0 : m = 0
  · subst h0
    go_wp2
    go_ret
    exact ⟨rfl, g1⟩
  have h0' : ((m : Int) == 0) = false := by simpa using h0
  by_cases h1 : 40 < m
  · go_wp2
    go_ret
    exact ⟨rfl, g1⟩
  by_cases h2 : 300 < n
  · go_wp2
    go_ret
    exact ⟨rfl, g1⟩
  go_wp2_with fail
  refine (values_ _ _ _ _ _ _ _ _ _ (HS.out.grew g1) (HT.out.grew g1)).mono ?_
  rintro e w2 ⟨g2, A2, m2, c2, s2, hc2, rfl⟩
  by_cases hok : (ordR n ls).2 = 0
  · obtain ⟨hv2, hvl⟩ := valR_ok (ls := ls) HT.out.1 hok
    rw [hv2]
    have hm2 : m2 = n := by rw [← s2.1]; exact hvl
    subst hm2
    have HOK := Lib.hid hok
    have S2 := Lib.hid s2
    have G := Lib.hid (g1.trans g2)
    clear hok s2 g1 g2 hv2 hvl
    obtain ⟨q, hq⟩ : ∃ q : Nat, at_ % (m : Int) = q := ⟨(at_ % (m : Int)).toNat, by have := Int.emod_nonneg at_ (show (m : Int) ≠ 0 by omega); omega⟩
    have hqm : q < m := by have := Int.emod_lt_of_pos at_ (show 0 < (m : Int) by omega); omega
    obtain ⟨b, off, hA1, hb, hcell⟩ := (HS.out.grew G.out).2 (by omega)
    subst hA1
    clear hcell
    have HP1 : Hid (SlL w2 (some ⟨b, off, none⟩) q (ls.take q)) := by
      have := (HS.out.grew G.out).part 0 q (by omega)
      exact Lib.hid (by simpa using this)
    have HP2 : Hid (SlL w2 (some ⟨b, off + (q + 1) * 5, none⟩) (m - (q + 1)) (ls.drop (q + 1))) := by
      have := (HS.out.grew G.out).part (q + 1) (m - (q + 1)) (by omega)
      rw [List.take_of_length_le (by rw [List.length_drop, HS.out.1]; exact Nat.le_refl _)] at this
      exact this
    go_wp2_with fail
    refine RG.wp_region_rg 9 (fun a b => Grew a b) [fun u wx => ∃ g, u = .slice (some ⟨g, 0, none⟩) 0 0 ∧ w2.heap.size ≤ g ∧ wx.heap[g]? = some (.cells #[] 34 (0, 0)), fun u _ => u = .slice (some ⟨b, off, none⟩) m c, fun u _ => u = .int .i64 q, fun u _ => u = .slice (some ⟨b, off, none⟩) q c, fun u wx => wx.ownsRow w2.heap.size 34 5 u q (lkv (ls.take q)), fun u _ => u = .slice (some ⟨b, off, none⟩) m c, fun u _ => u = .int .i64 q, fun u _ => u = .int .i64 (q + 1), fun u _ => ∃ o, u = .slice (some ⟨b, o, none⟩) (m - (q + 1)) (c - (q + 1)) ∧ SlL w2 (some ⟨b, o, none⟩) (m - (q + 1)) (ls.drop (q + 1))] Try.mixed (by kernel_rfl) rfl (Grew.refl _) (fun _ _ _ a b => a.trans b) ?st ?ob ?fin
    case st => exact ⟨fun _ _ _ _ h g => by obtain ⟨g0, e, hg0, hh0⟩ := h; exact ⟨g0, e, hg0, (Below.block g g0 (Array.getElem?_eq_some_iff.1 hh0).1).trans hh0⟩, fun _ _ _ _ h _ => h, fun _ _ _ _ h _ => h, fun _ _ _ _ h _ => h, fun _ _ _ _ h g => own_grew h g, fun _ _ _ _ h _ => h, fun _ _ _ _ h _ => h, fun _ _ _ _ h _ => h, fun _ _ _ _ h _ => h, trivial⟩
    case ob =>
      refine ⟨fun w' hR => ?_, fun w' hR => ?_, fun w' hR => ?_, fun w' hR => ?_, fun w' hR => ?_, fun w' hR => ?_, fun w' hR => ?_, fun w' hR => ?_, fun w' hR => ?_, trivial⟩
      · show wpList _ _ _ _ _ _
        have hR := Grew.of_drew hR
        
        go_wp2
        exact ⟨_, rfl, ⟨_, rfl, hR.size, World.alloc_heap_new w' _⟩, (Grew.refl _).alloc _⟩
      · rintro v0
        show wpList _ _ _ _ _ _
        simp only [Act.put, List.setIfInBounds_toArray, List.set_cons_succ, List.set_cons_zero]
        go_wp2
        exact ⟨_, rfl, rfl, Grew.refl _⟩
      · rintro v0 v1
        show wpList _ _ _ _ _ _
        simp only [Act.put, List.setIfInBounds_toArray, List.set_cons_succ, List.set_cons_zero]
        go_wp2
        exact ⟨_, rfl, rfl, Grew.refl _⟩
      · rintro v0 _ rfl _ rfl
        show wpList _ _ _ _ _ _
        simp only [Act.put, List.setIfInBounds_toArray, List.set_cons_succ, List.set_cons_zero]
        go_wp2
        exact ⟨_, rfl, rfl, Grew.refl _⟩
      · rintro _ ⟨g0, rfl, hg0, hh0⟩ v1 v2 _ rfl
        show wpList _ _ _ _ _ _
        simp only [Act.put, List.setIfInBounds_toArray, List.set_cons_succ, List.set_cons_zero]
        have hR := Grew.of_drew hR
        
        refine wpList_append_fresh _ rfl (.tmp 45) (.tmp 48) 22 rfl w2.heap.size 34 i0 Try.underlying22 hi hz0 hz1 hz2 g0 rfl hh0 hg0 ⟨b, off, none⟩ q c (ls.take q) rfl ((HP1.out).grew hR) (by omega) hR.size ?_
        exact fun v' w'' h1 h2 => ⟨_, rfl, h1, h2⟩
      · rintro v0 v1 v2 v3 v4
        show wpList _ _ _ _ _ _
        simp only [Act.put, List.setIfInBounds_toArray, List.set_cons_succ, List.set_cons_zero]
        go_wp2
        exact ⟨_, rfl, rfl, Grew.refl _⟩
      · rintro v0 v1 v2 v3 v4 v5
        show wpList _ _ _ _ _ _
        simp only [Act.put, List.setIfInBounds_toArray, List.set_cons_succ, List.set_cons_zero]
        go_wp2
        exact ⟨_, rfl, rfl, Grew.refl _⟩
      · rintro v0 v1 v2 v3 v4 v5 _ rfl
        show wpList _ _ _ _ _ _
        simp only [Act.put, List.setIfInBounds_toArray, List.set_cons_succ, List.set_cons_zero]
        go_wp2
        exact ⟨_, rfl, rfl, Grew.refl _⟩
      · rintro v0 v1 v2 v3 v4 _ rfl v6 _ rfl
        show wpList _ _ _ _ _ _
        simp only [Act.put, List.setIfInBounds_toArray, List.set_cons_succ, List.set_cons_zero]
        go_wp2
        all_goals first | exact ⟨_, rfl, ⟨_, rfl, HP2.out⟩, Grew.refl _⟩ | exact ⟨_, rfl, ⟨_, rfl, HP2.out.1, fun h => absurd h (by omega)⟩, Grew.refl _⟩
    case fin =>
      rintro w' hR _ ⟨g0, rfl, hg0, hh0⟩ _ rfl _ rfl _ rfl _ HO4 _ rfl _ rfl _ rfl _ ⟨o8, rfl, HP8⟩
      show wpList _ _ _ _ _ _
      simp only [Act.put, List.setIfInBounds_toArray, List.set_cons_succ, List.set_cons_zero, List.drop_succ_cons, List.drop_zero]
      have hR := Grew.of_drew hR
      refine wpList_append_sll _ rfl (.tmp 49) (.tmp 53) 22 rfl w2.heap.size 34 i0 Try.underlying22 hi hz0 hz1 hz2 _ q (ls.take q) rfl HO4 (some ⟨b, o8, none⟩) (m - (q + 1)) (c - (q + 1)) (ls.drop (q + 1)) rfl (HP8.grew hR) (by intro h; cases h) (by omega) hR.size ?_
      intro v3 w3 hown3 hgrow3
      have G3 := Lib.hid (G.out.trans (grew_own hR HO4 hgrow3))
      have G23 := Lib.hid (grew_own hR HO4 hgrow3)
      clear hgrow3 HO4 hh0 hg0 HP8 HP1 HP2 hR
      have HO3 : Hid (w3.ownsRow w2.heap.size 34 5 v3 (m - 1) (lkv (less ls q))) := by
        have e : q + (m - (q + 1)) = m - 1 := by omega
        rw [e] at hown3
        exact hown3
      clear hown3
      obtain ⟨A3, c3, e3, hc3, sl3⟩ := own_sll HO3.out
      subst e3
      have SL3 := Lib.hid sl3
      clear sl3 HO3
      go_wp2_with fail
      refine (values_ _ _ _ _ _ _ _ _ _ SL3.out (HT.out.grew G3.out)).mono ?_
      rintro e w4 ⟨g4, A4, m4, c4, s4, hc4, rfl⟩
      obtain ⟨hv4, hvl4⟩ := valR_ok (ls := less ls q) HT.out.1 (ordR_less q HOK.out)
      rw [hv4]
      have hm4 : m4 = m2 := by rw [← s4.1]; exact hvl4
      subst hm4
      have S4 := Lib.hid s4
      have S24 := Lib.hid ((S2.out.grew G23.out).grew g4)
      have SL4 := Lib.hid (SL3.out.grew g4)
      have G4 := Lib.hid (G3.out.trans g4)
      clear s4 g4 S2 SL3 G23 G3
      obtain ⟨o1, o2, o3, o4, o5⟩ := ordR_ok HOK.out
      have HB := Lib.hid (badL_spec o4).2
      clear o1 o2 o3 o4 o5
      have hql : q < ls.length := by rw [HS.out.1]; exact hqm
      have hxm : ls.getD q Lk.z ∈ ls := by simp [List.getD, hql]
      obtain ⟨⟨f0, f1⟩, ⟨t0, t1⟩, _⟩ := okL_spec (HB.out _ hxm)
      have HE : Hid (∀ w5, Grew w4 w5 → w5.cell? ⟨b, off + q * 5 + 1, none⟩ = some (.int .i64 (ls.getD q Lk.z).to)) := by
        intro w5 hge
        obtain ⟨b', off', hA1, hb', hcell⟩ := ((HS.out.grew G4.out).grew hge).2 (by omega)
        injection hA1 with hA1
        injection hA1 with ha ho _
        subst ha ho
        exact (hcell q hqm).2.1
      have HM0 : Hid (mark0 ls q m4 = (List.replicate m4 false).set (ls.getD q Lk.z).to.toNat true) := rfl
      generalize ls.getD q Lk.z = x0 at *
      go_wp2_with (at_make; refine wpList_make_full _ rfl _ _ 35 rfl w4.heap.size 4 i4 (.bool false) 1 Try.underlying35 hi4 hy0 hy1 .i64 .i64 m4 m4 m4 rfl rfl rfl rfl (by rw [hy2]; omega) (by unfold maxLen; omega) (Nat.le_refl _) ?_; intro w5 hown5 hgrow5; have hbl0 : Below w4.heap.size w4 w5 := (Below.refl _ _).grown hgrow5 (Nat.le_refl _) (fun k e => by cases e); have e1 := HE.out w5 hbl0; have hb0 := mk_blkB hown5; have hgs := hb0.lt; have hfg := hb0.frozen x0.to.toNat; have hcg := mk_cellB hb0 x0.to.toNat (by omega); have HB0 := Lib.hid hb0; have HBL0 := Lib.hid hbl0; clear hb0 hbl0 hown5 hgrow5)
      have hbs := HB0.out.set x0.to.toNat (.bool true)
      rw [set_mapB, ← HM0.out] at hbs
      have HBS := Lib.hid hbs
      have HBW := Lib.hid (Below.setCell HBL0.out (Nat.le_refl _) (p := ⟨w4.heap.size, x0.to.toNat, none⟩) (.bool true))
      clear hbs HB0 HBL0 HM0
      go_loopw [14] (fun i wr => ∃ j : Nat, j ≤ m ∧ i = .int .i64 j ∧ Hid (Blk wr w4.heap.size 4 ((fiter (less ls q) (mark0 ls q m4) j).map Value.bool).toArray) ∧ Hid (Below w4.heap.size w4 wr)) (fun i _ => m - (intOf i).toNat)
      case atStart => exact ⟨0, Nat.zero_le _, rfl, HBS, HBW⟩
      case round =>
        rename World => wo
        obtain ⟨j, hj, rfl, HJ, HW⟩ := hrel
        clear HBS HBW hfg hcg e1 hgs
        by_cases hlt : j < m
        · go_wp2
          go_loopw [15] (fun i wr => ∃ k : Nat, k ≤ m - 1 ∧ i = .int .i64 k ∧ Hid (Blk wr w4.heap.size 4 ((((less ls q).take k).foldl fstep (fiter (less ls q) (mark0 ls q m4) j)).map Value.bool).toArray) ∧ Hid (Below w4.heap.size w4 wr)) (fun i _ => m - (intOf i).toNat)
          case atStart => exact ⟨0, Nat.zero_le _, rfl, HJ, HW⟩
          case round =>
            obtain ⟨k, hk, rfl, HK, HX⟩ := hrel
            clear HJ HW
            by_cases hltk : k < m - 1
            · have hkl : k < (less ls q).length := by rw [SL4.out.1]; exact hltk
              have hkm : (less ls q).getD k Lk.z ∈ less ls q := by simp [List.getD, hkl]
              obtain ⟨⟨u0, u1⟩, ⟨v0, v1⟩, _⟩ := okL_spec (HB.out _ (less_mem hkm))
              have HTK := Lib.hid (takeL_snoc (less ls q) k hkl)
              have hge : Grew w4 wr := HX.out
              obtain ⟨b3, off3, hA3, hb3, hcell3⟩ := (SL4.out.grew hge).2 (by omega)
              subst hA3
              obtain ⟨c0, c1, _, _, _⟩ := hcell3 k hltk
              generalize (less ls q).getD k Lk.z = x at *
              have HL : Hid ((((less ls q).take k).foldl fstep (fiter (less ls q) (mark0 ls q m4) j)).length = m4) := Lib.hid (by rw [ffold_length, fiter_length]; simp [mark0])
              have HN : Hid (((less ls q).take (k + 1)).foldl fstep (fiter (less ls q) (mark0 ls q m4) j) = fstep (((less ls q).take k).foldl fstep (fiter (less ls q) (mark0 ls q m4) j)) x) := Lib.hid (by rw [HTK.out, List.foldl_append]; rfl)
              generalize (((less ls q).take k).foldl fstep (fiter (less ls q) (mark0 ls q m4) j)) = F at *
              have hgs := HK.out.lt
              have hfg := HK.out.frozen x.to.toNat
              have hcg := HK.out.cell x.to.toNat
              rw [cellOfB _ _ (by rw [HL.out]; omega)] at hcg
              have hcf := HK.out.cell x.fr.toNat
              rw [cellOfB _ _ (by rw [HL.out]; omega)] at hcf
              have hbs := HK.out.set x.to.toNat (.bool true)
              rw [set_mapB] at hbs
              have HBS := Lib.hid hbs
              have HBW := Lib.hid (Below.setCell HX.out (Nat.le_refl _) (p := ⟨w4.heap.size, x.to.toNat, none⟩) (.bool true))
              clear hge hcell3 HTK hbs
              cases hF : F.getD x.fr.toNat false with
              | true =>
                rw [hF] at hcf
                have HN2 : Hid (((less ls q).take (k + 1)).foldl fstep (fiter (less ls q) (mark0 ls q m4) j) = F.set x.to.toNat true) := Lib.hid (by rw [HN.out]; unfold fstep; rw [if_pos hF])
                clear hF HN
                go_wp2
                go_roundw
                case rel => exact ⟨k + 1, by omega, by go_num, by rw [HN2.out]; exact HBS, HBW⟩
                case measure => simp [intOf]; omega
              | false =>
                rw [hF] at hcf
                have HN2 : Hid (((less ls q).take (k + 1)).foldl fstep (fiter (less ls q) (mark0 ls q m4) j) = F) := Lib.hid (by rw [HN.out]; unfold fstep; rw [if_neg (by rw [hF]; decide)])
                clear hF HN
                go_wp2
                go_roundw
                case rel => exact ⟨k + 1, by omega, by go_num, by rw [HN2.out]; exact HK, HX⟩
                case measure => simp [intOf]; omega
            · have HN2 : Hid (((less ls q).take k).foldl fstep (fiter (less ls q) (mark0 ls q m4) j) = fiter (less ls q) (mark0 ls q m4) (j + 1)) := by
                rw [List.take_of_length_le (by rw [SL4.out.1]; omega)]; rfl
              rw [HN2.out] at HK
              go_wp2
              go_roundw
              case rel => exact ⟨j + 1, by omega, by go_num, HK, HX⟩
              case measure => simp [intOf]; omega
        · obtain rfl : j = m := by omega
          have HLF : Hid ((fiter (less ls q) (mark0 ls q m4) j).length = m4) := Lib.hid (by rw [fiter_length]; simp [mark0])
          have HSM : Hid (∀ p, p < m4 → (fiter (less ls q) (mark0 ls q m4) j).getD p false = false → (valR ls vs).1.getD p 0 = (valR (less ls q) vs).1.getD p 0) := by
            have e := HS.out.1
            intro p hp hf
            rw [← e] at hf
            exact fewer_same hql HT.out.1 HOK.out p hp hf
          generalize fiter (less ls q) (mark0 ls q m4) j = F at *
          go_wp2
          go_loopw [16] (fun i wr => ∃ k : Nat, k ≤ m4 ∧ i = .int .i64 k ∧ Hid (Grew wo wr)) (fun i _ => m4 - (intOf i).toNat)
          case atStart => exact ⟨0, Nat.zero_le _, rfl, Lib.hid (Grew.refl _)⟩
          case round =>
            obtain ⟨k, hk, rfl, HG⟩ := hrel
            by_cases hltk : k < m4
            · have hcf := (HG.out.cell HJ.out.lt).trans (HJ.out.cell k)
              rw [cellOfB _ _ (by rw [HLF.out]; omega)] at hcf
              have hge : Grew w4 wo := HW.out
              obtain ⟨b3, off3, hA3, hb3, hcell3⟩ := ((S24.out.grew hge).grew HG.out).2 (by omega)
              obtain ⟨b5, off5, hA5, hb5, hcell5⟩ := ((S4.out.grew hge).grew HG.out).2 (by omega)
              subst hA3 hA5
              have c3 := hcell3 k hltk
              have c5 := hcell5 k hltk
              have hsm := HSM.out k hltk
              generalize (valR ls vs).1.getD k 0 = va at *
              generalize (valR (less ls q) vs).1.getD k 0 = vb at *
              clear hcell3 hcell5 hge
              cases hF : F.getD k false with
              | true =>
                rw [hF] at hcf
                clear hF hsm
                go_wp2_with fail
                go_quiet (fail)
                go_wp2
                go_roundw
                case rel => exact ⟨k + 1, by omega, by go_num, Lib.hid (HG.out.drewN _)⟩
                case measure => simp [intOf]; omega
              | false =>
                rw [hF] at hcf
                obtain rfl := hsm hF
                go_wp2_with fail
                go_quiet (fail)
                go_wp2
                go_roundw
                case rel => exact ⟨k + 1, by omega, by go_num, Lib.hid (HG.out.drewN _)⟩
                case measure => simp [intOf]; omega
            · go_wp2
              go_ret
              exact ⟨rfl, (G4.out.trans HW.out).trans HG.out⟩
  · have hvb := valR_bad (ls := ls) HT.out.1 hok
    generalize (valR ls vs).2 = e2 at hvb
    go_wp2
    go_ret
    exact ⟨rfl, g1.trans g2⟩
end Go.Proofs.Ytnihkdmdbmnniaa
