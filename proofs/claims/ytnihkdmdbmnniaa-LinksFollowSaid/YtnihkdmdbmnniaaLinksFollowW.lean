/- The walk of LinksFollow. -/
import Derived.Test.YtnihkdmdbmnniaaW9
set_option linter.unusedSimpArgs false
namespace Go.Proofs.Ytnihkdmdbmnniaa
open Go.RowKit

set_option maxRecDepth 100000 in
set_option maxHeartbeats 1000000 in
theorem linksFollow_walk (A : Option Addr) (m c : Nat) (ls : List Lk) (B : Option Addr) (n d : Nat) (vs : List Int) (w : World) (hs : SlL w A m ls) (ht : Sl w B n vs) :
    Calls Try.prog 7 #[.slice A m c, .slice B n d] w fun e w' => e = .returned (.bool true) ∧ Grew w w' := by
  have HS := Lib.hid hs
  have HV := Lib.hid ht
  have HN : Hid (vs.length = n) := ht.1
  clear hs ht
  go_enter Try.func7, Try.ntmps7
  go_wp2_with fail
  refine (sane _).mono ?_
  rintro e w1 ⟨rfl, g1⟩
  go_wp2_with fail
  refine (values_ _ _ _ _ _ _ _ _ _ (HS.out.grew g1) (HV.out.grew g1)).mono ?_
  rintro e w2 ⟨g2, A2, m2, c2, s2, hc2, rfl⟩
  by_cases hok : (ordR n ls).2 = 0
  · have ⟨o1, o2, o3, o4, o5⟩ := ordR_ok hok
    have ⟨b1, b2⟩ := badL_spec o4
    have hnd := (mapOf_len ls).2.1 b1
    have hvr : valR ls vs = (valL ls vs (ordR n ls).1, 0) := by unfold valR; rw [HN.out, if_pos hok]
    rw [hvr] at s2 ⊢
    rw [Int.toNat_natCast] at o5
    have hml : m ≤ 256 := by rw [← HS.out.1]; exact o3
    have hm2 : m2 = n := by have h := s2.1; simp only [valL_length] at h; rw [← h]; exact HN.out
    subst hm2
    have HFX := Lib.hid (fun p hp => val_fix (ls := ls) vs HN.out o5 p hp)
    have HSM : Hid (Smp (valL ls vs (ordR m2 ls).1)) := smp_fold ls vs _ _ (smp_zero _)
    have HOK := Lib.hid hok
    dsimp only at s2 ⊢
    generalize valL ls vs (ordR m2 ls).1 = xx at *
    have S2 := Lib.hid s2
    have HB := Lib.hid b2
    have HND := Lib.hid hnd
    have HSL := Lib.hid (HS.out.grew (g1.trans g2))
    have HVL := Lib.hid (HV.out.grew (g1.trans g2))
    have G := Lib.hid (g1.trans g2)
    clear hok o1 o3 o4 o5 b1 b2 hnd hvr s2 g1 g2 HS HV
    obtain ⟨i0, hi, hz0, hz1, hz2⟩ := info_parts Try.info4
    go_wp2_with fail
    refine (check_ _ _ _ _ _ _ HSL.out).mono ?_
    rintro e w3 ⟨rfl, g3⟩
    rw [HOK.out]
    have S3 := Lib.hid (S2.out.grew g3)
    have HSL := Lib.hid (HSL.out.grew g3)
    have HVL := Lib.hid (HVL.out.grew g3)
    have G := Lib.hid (G.out.trans g3)
    clear S2 HOK g3
    go_wp2_with (at_make; refine wpList_make_full _ rfl _ _ 35 rfl w3.heap.size 4 i0 (.bool false) 1 Try.underlying35 hi hz0 hz1 .i64 .i64 m2 m2 m2 rfl rfl rfl rfl (by rw [hz2]; omega) (by unfold maxLen; omega) (Nat.le_refl _) ?_; intro w4 hown3 hgrow3)
    have hb0 : Blk w4 w3.heap.size 4 ((tgtL [] m2).map Value.bool).toArray := by
      have := own_blk hown3
      rw [Nat.mul_one, show (Value.bool false).cells = #[Value.bool false] from rfl, toList_madeCells_one] at this
      rw [tgtL_nil]
      simpa using this
    have hbl0 : Below w3.heap.size w3 w4 := (Below.refl _ _).grown hgrow3 (Nat.le_refl _) (fun k e => by cases e)
    clear hown3 hgrow3
    go_loopw [8] (fun i wr => ∃ k : Nat, k ≤ m ∧ i = .int .i64 k ∧ Blk wr w3.heap.size 4 ((tgtL (ls.take k) m2).map Value.bool).toArray ∧ Below w3.heap.size w3 wr) (fun i _ => m - (intOf i).toNat)
    case atStart => exact ⟨0, Nat.zero_le _, rfl, hb0, hbl0⟩
    case round =>
      obtain ⟨k, hk, rfl, hblk, hbl⟩ := hrel
      clear hb0 hbl0
      by_cases hlt : k < m
      · have hkl : k < ls.length := by rw [HSL.out.1]; exact hlt
        have hxm : ls.getD k Lk.z ∈ ls := by simp [List.getD, hkl]
        obtain ⟨⟨f0, f1⟩, ⟨t0, t1⟩, _, hnum, ⟨hd1, hd2⟩, ⟨ha1, ha2⟩⟩ := okL_spec (HB.out _ hxm)
        have hge : Grew w3 wr := hbl
        obtain ⟨b, off, hA1, hb, hcell⟩ := HSL.out.2 (by omega)
        obtain ⟨c0, c1, c2', c3, c4⟩ := hcell k hlt
        have e0 := (hge.cell (o := off + k * 5) hb).trans c0
        have e1 := (hge.cell (o := off + k * 5 + 1) hb).trans c1
        have e3 := (hge.cell (o := off + k * 5 + 3) hb).trans c3
        have hsrc := src_of_mem HND.out hxm
        have hTK := takeL_snoc ls k hkl
        obtain ⟨b2, off2, hA2, hb2, hcell2⟩ := S3.out.2 (by omega)
        rw [hA1, hA2]
        generalize ls.getD k Lk.z = x at *
        have hfx := HFX.out x.to.toNat (by omega)
        rw [Int.toNat_of_nonneg t0] at hfx
        have hwant : want ls vs xx x.to = linkV x (xx.getD x.fr.toNat 0) := by unfold want; rw [hsrc]
        rw [hwant] at hfx
        have hxf := HSM.out x.fr.toNat
        have d1 := hcell2 x.to.toNat (by omega)
        have d2 := hcell2 x.fr.toNat (by omega)
        rw [hfx] at d1
        have hgs := hblk.lt
        have hfg := hblk.frozen x.to.toNat
        have hcg := hblk.cell x.to.toNat
        rw [cellOfB _ _ (by rw [tgtL_length]; omega)] at hcg
        have hbs := hblk.set x.to.toNat (.bool true)
        rw [set_mapB, ← tgtL_snoc (ls.take k) m2 x.to.toNat x (by omega), ← hTK] at hbs
        have HBS := Lib.hid hbs
        have HBW := Lib.hid (Below.setCell hbl (Nat.le_refl _) (p := ⟨w3.heap.size, x.to.toNat, none⟩) (.bool true))
        have hgw : Grew w3 (wr.setCell ⟨w3.heap.size, x.to.toNat, none⟩ (.bool true)) := HBW.out
        generalize xx.getD x.fr.toNat 0 = xf at *
        obtain ⟨hp1, hp2⟩ := mul_bd xf x.num hxf hnum
        have hdb := div_bd (xf * x.num) x.den hp1 hp2 hd1
        have HC : Hid (∀ {w' : World} {u : Nat} (o : Nat), Grew (wr.setCell ⟨w3.heap.size, x.to.toNat, none⟩ (.bool true)) w' → u < w3.heap.size → w'.cell? ⟨u, o, none⟩ = w3.cell? ⟨u, o, none⟩) := fun o h hu => by
          rw [h.cell (by rw [setCell_size]; omega), hgw.cell hu]
        have HC0 : Hid (∀ {w' : World}, Grew (wr.setCell ⟨w3.heap.size, x.to.toNat, none⟩ (.bool true)) w' → w'.cell? ⟨b, off + k * 5, none⟩ = some (.int .i64 x.fr)) := fun h => (HC.out _ h hb).trans c0
        have HC1 : Hid (∀ {w' : World}, Grew (wr.setCell ⟨w3.heap.size, x.to.toNat, none⟩ (.bool true)) w' → w'.cell? ⟨b, off + k * 5 + 1, none⟩ = some (.int .i64 x.to)) := fun h => (HC.out _ h hb).trans c1
        have HC2 : Hid (∀ {w' : World}, Grew (wr.setCell ⟨w3.heap.size, x.to.toNat, none⟩ (.bool true)) w' → w'.cell? ⟨b, off + k * 5 + 2, none⟩ = some (.int .i64 x.num)) := fun h => (HC.out _ h hb).trans c2'
        have HC3 : Hid (∀ {w' : World}, Grew (wr.setCell ⟨w3.heap.size, x.to.toNat, none⟩ (.bool true)) w' → w'.cell? ⟨b, off + k * 5 + 3, none⟩ = some (.int .i64 x.den)) := fun h => (HC.out _ h hb).trans c3
        have HC4 : Hid (∀ {w' : World}, Grew (wr.setCell ⟨w3.heap.size, x.to.toNat, none⟩ (.bool true)) w' → w'.cell? ⟨b, off + k * 5 + 4, none⟩ = some (.int .i64 x.add)) := fun h => (HC.out _ h hb).trans c4
        have HXT : Hid (∀ {w' : World}, Grew (wr.setCell ⟨w3.heap.size, x.to.toNat, none⟩ (.bool true)) w' → w'.cell? ⟨b2, off2 + x.to.toNat, none⟩ = some (.int .i64 (linkV x xf))) := fun h => (HC.out _ h hb2).trans d1
        have HXF : Hid (∀ {w' : World}, Grew (wr.setCell ⟨w3.heap.size, x.to.toNat, none⟩ (.bool true)) w' → w'.cell? ⟨b2, off2 + x.fr.toNat, none⟩ = some (.int .i64 xf)) := fun h => (HC.out _ h hb2).trans d2
        clear hcell hcell2 hA1 hA2 hkl hxm hsrc hTK hfx hwant hblk hbs hgw c0 c1 c2' c3 c4 d1 d2
        go_wp2_with fail
        refine RG.wp_region_rg 36 (fun a b => Grew a b) [fun u _ => u = .slice (some ⟨b2, off2, none⟩) m2 c2, fun u _ => u = .slice (some ⟨b, off, none⟩) m c, fun u _ => u = .int .i64 k, fun u _ => u = .pointer (some ⟨b, off + k * 5, none⟩), fun u _ => u = .pointer (some ⟨b, off + k * 5 + 1, none⟩), fun u _ => u = .int .i64 x.to, fun u _ => u = .pointer (some ⟨b2, off2 + x.to.toNat, none⟩), fun u _ => u = .int .i64 (linkV x xf), fun u _ => u = .slice (some ⟨b2, off2, none⟩) m2 c2, fun u _ => u = .slice (some ⟨b, off, none⟩) m c, fun u _ => u = .int .i64 k, fun u _ => u = .pointer (some ⟨b, off + k * 5, none⟩), fun u _ => u = .pointer (some ⟨b, off + k * 5, none⟩), fun u _ => u = .int .i64 x.fr, fun u _ => u = .pointer (some ⟨b2, off2 + x.fr.toNat, none⟩), fun u _ => u = .int .i64 xf, fun u _ => u = .slice (some ⟨b, off, none⟩) m c, fun u _ => u = .int .i64 k, fun u _ => u = .pointer (some ⟨b, off + k * 5, none⟩), fun u _ => u = .pointer (some ⟨b, off + k * 5 + 2, none⟩), fun u _ => u = .int .i64 x.num, fun u _ => u = .int .i64 (xf * x.num), fun u _ => u = .slice (some ⟨b, off, none⟩) m c, fun u _ => u = .int .i64 k, fun u _ => u = .pointer (some ⟨b, off + k * 5, none⟩), fun u _ => u = .pointer (some ⟨b, off + k * 5 + 3, none⟩), fun u _ => u = .int .i64 x.den, fun u _ => u = .int .i64 (xf * x.num / x.den), fun u _ => u = .slice (some ⟨b, off, none⟩) m c, fun u _ => u = .int .i64 k, fun u _ => u = .pointer (some ⟨b, off + k * 5, none⟩), fun u _ => u = .pointer (some ⟨b, off + k * 5 + 4, none⟩), fun u _ => u = .int .i64 x.add, fun u _ => u = .int .i64 (xf * x.num / x.den + x.add), fun u _ => u = .int .i64 (linkV x xf), fun u _ => u = .bool false] Try.mixed (by kernel_rfl) rfl (Grew.refl _) (fun _ _ _ a b => a.trans b) ?stA ?obA ?finA
        case stA => exact ⟨fun _ _ _ _ h _ => h, fun _ _ _ _ h _ => h, fun _ _ _ _ h _ => h, fun _ _ _ _ h _ => h, fun _ _ _ _ h _ => h, fun _ _ _ _ h _ => h, fun _ _ _ _ h _ => h, fun _ _ _ _ h _ => h, fun _ _ _ _ h _ => h, fun _ _ _ _ h _ => h, fun _ _ _ _ h _ => h, fun _ _ _ _ h _ => h, fun _ _ _ _ h _ => h, fun _ _ _ _ h _ => h, fun _ _ _ _ h _ => h, fun _ _ _ _ h _ => h, fun _ _ _ _ h _ => h, fun _ _ _ _ h _ => h, fun _ _ _ _ h _ => h, fun _ _ _ _ h _ => h, fun _ _ _ _ h _ => h, fun _ _ _ _ h _ => h, fun _ _ _ _ h _ => h, fun _ _ _ _ h _ => h, fun _ _ _ _ h _ => h, fun _ _ _ _ h _ => h, fun _ _ _ _ h _ => h, fun _ _ _ _ h _ => h, fun _ _ _ _ h _ => h, fun _ _ _ _ h _ => h, fun _ _ _ _ h _ => h, fun _ _ _ _ h _ => h, fun _ _ _ _ h _ => h, fun _ _ _ _ h _ => h, fun _ _ _ _ h _ => h, fun _ _ _ _ h _ => h, trivial⟩
        case obA =>
          refine ⟨fun w' hR => ?_, fun w' hR => ?_, fun w' hR => ?_, fun w' hR => ?_, fun w' hR => ?_, fun w' hR => ?_, fun w' hR => ?_, fun w' hR => ?_, fun w' hR => ?_, fun w' hR => ?_, fun w' hR => ?_, fun w' hR => ?_, fun w' hR => ?_, fun w' hR => ?_, fun w' hR => ?_, fun w' hR => ?_, fun w' hR => ?_, fun w' hR => ?_, fun w' hR => ?_, fun w' hR => ?_, fun w' hR => ?_, fun w' hR => ?_, fun w' hR => ?_, fun w' hR => ?_, fun w' hR => ?_, fun w' hR => ?_, fun w' hR => ?_, fun w' hR => ?_, fun w' hR => ?_, fun w' hR => ?_, fun w' hR => ?_, fun w' hR => ?_, fun w' hR => ?_, fun w' hR => ?_, fun w' hR => ?_, fun w' hR => ?_, trivial⟩
          · show wpList _ _ _ _ _ _
            go_wp2
            exact ⟨_, rfl, rfl, Grew.refl _⟩
          · rintro v0
            show wpList _ _ _ _ _ _
            simp only [Act.put, List.setIfInBounds_toArray, List.set_cons_succ, List.set_cons_zero]
            go_wp2
            exact ⟨_, rfl, rfl, Grew.refl _⟩
          · rintro v0 v1
            show wpList _ _ _ _ _ _
            simp only [Act.put, List.setIfInBounds_toArray, List.set_cons_succ, List.set_cons_zero]
            go_wp2
            exact ⟨_, rfl, rfl, Grew.refl _⟩
          · rintro v0 _ rfl _ rfl
            show wpList _ _ _ _ _ _
            simp only [Act.put, List.setIfInBounds_toArray, List.set_cons_succ, List.set_cons_zero]
            go_wp2
            exact ⟨_, rfl, rfl, Grew.refl _⟩
          · rintro v0 v1 v2 _ rfl
            show wpList _ _ _ _ _ _
            simp only [Act.put, List.setIfInBounds_toArray, List.set_cons_succ, List.set_cons_zero]
            go_wp2
            exact ⟨_, rfl, rfl, Grew.refl _⟩
          · rintro v0 v1 v2 v3 _ rfl
            show wpList _ _ _ _ _ _
            simp only [Act.put, List.setIfInBounds_toArray, List.set_cons_succ, List.set_cons_zero]
            have hR := Grew.of_drew hR
            have hcc := (HC1.out hR)
            go_wp2
            exact ⟨_, rfl, rfl, Grew.refl _⟩
          · rintro _ rfl v1 v2 v3 v4 _ rfl
            show wpList _ _ _ _ _ _
            simp only [Act.put, List.setIfInBounds_toArray, List.set_cons_succ, List.set_cons_zero]
            go_wp2
            exact ⟨_, rfl, rfl, Grew.refl _⟩
          · rintro v0 v1 v2 v3 v4 v5 _ rfl
            show wpList _ _ _ _ _ _
            simp only [Act.put, List.setIfInBounds_toArray, List.set_cons_succ, List.set_cons_zero]
            have hR := Grew.of_drew hR
            have hcc := (HXT.out hR)
            go_wp2
            exact ⟨_, rfl, rfl, Grew.refl _⟩
          · rintro v0 v1 v2 v3 v4 v5 v6 v7
            show wpList _ _ _ _ _ _
            simp only [Act.put, List.setIfInBounds_toArray, List.set_cons_succ, List.set_cons_zero]
            go_wp2
            exact ⟨_, rfl, rfl, Grew.refl _⟩
          · rintro v0 v1 v2 v3 v4 v5 v6 v7 v8
            show wpList _ _ _ _ _ _
            simp only [Act.put, List.setIfInBounds_toArray, List.set_cons_succ, List.set_cons_zero]
            go_wp2
            exact ⟨_, rfl, rfl, Grew.refl _⟩
          · rintro v0 v1 v2 v3 v4 v5 v6 v7 v8 v9
            show wpList _ _ _ _ _ _
            simp only [Act.put, List.setIfInBounds_toArray, List.set_cons_succ, List.set_cons_zero]
            go_wp2
            exact ⟨_, rfl, rfl, Grew.refl _⟩
          · rintro v0 v1 v2 v3 v4 v5 v6 v7 v8 _ rfl _ rfl
            show wpList _ _ _ _ _ _
            simp only [Act.put, List.setIfInBounds_toArray, List.set_cons_succ, List.set_cons_zero]
            go_wp2
            exact ⟨_, rfl, rfl, Grew.refl _⟩
          · rintro v0 v1 v2 v3 v4 v5 v6 v7 v8 v9 v10 _ rfl
            show wpList _ _ _ _ _ _
            simp only [Act.put, List.setIfInBounds_toArray, List.set_cons_succ, List.set_cons_zero]
            go_wp2
            exact ⟨_, rfl, rfl, Grew.refl _⟩
          · rintro v0 v1 v2 v3 v4 v5 v6 v7 v8 v9 v10 v11 _ rfl
            show wpList _ _ _ _ _ _
            simp only [Act.put, List.setIfInBounds_toArray, List.set_cons_succ, List.set_cons_zero]
            have hR := Grew.of_drew hR
            have hcc := (HC0.out hR)
            go_wp2
            exact ⟨_, rfl, rfl, Grew.refl _⟩
          · rintro v0 v1 v2 v3 v4 v5 v6 v7 _ rfl v9 v10 v11 v12 _ rfl
            show wpList _ _ _ _ _ _
            simp only [Act.put, List.setIfInBounds_toArray, List.set_cons_succ, List.set_cons_zero]
            go_wp2
            exact ⟨_, rfl, rfl, Grew.refl _⟩
          · rintro v0 v1 v2 v3 v4 v5 v6 v7 v8 v9 v10 v11 v12 v13 _ rfl
            show wpList _ _ _ _ _ _
            simp only [Act.put, List.setIfInBounds_toArray, List.set_cons_succ, List.set_cons_zero]
            have hR := Grew.of_drew hR
            have hcc := (HXF.out hR)
            go_wp2
            exact ⟨_, rfl, rfl, Grew.refl _⟩
          · rintro v0 v1 v2 v3 v4 v5 v6 v7 v8 v9 v10 v11 v12 v13 v14 v15
            show wpList _ _ _ _ _ _
            simp only [Act.put, List.setIfInBounds_toArray, List.set_cons_succ, List.set_cons_zero]
            go_wp2
            exact ⟨_, rfl, rfl, Grew.refl _⟩
          · rintro v0 v1 v2 v3 v4 v5 v6 v7 v8 v9 v10 v11 v12 v13 v14 v15 v16
            show wpList _ _ _ _ _ _
            simp only [Act.put, List.setIfInBounds_toArray, List.set_cons_succ, List.set_cons_zero]
            go_wp2
            exact ⟨_, rfl, rfl, Grew.refl _⟩
          · rintro v0 v1 v2 v3 v4 v5 v6 v7 v8 v9 v10 v11 v12 v13 v14 v15 _ rfl _ rfl
            show wpList _ _ _ _ _ _
            simp only [Act.put, List.setIfInBounds_toArray, List.set_cons_succ, List.set_cons_zero]
            go_wp2
            exact ⟨_, rfl, rfl, Grew.refl _⟩
          · rintro v0 v1 v2 v3 v4 v5 v6 v7 v8 v9 v10 v11 v12 v13 v14 v15 v16 v17 _ rfl
            show wpList _ _ _ _ _ _
            simp only [Act.put, List.setIfInBounds_toArray, List.set_cons_succ, List.set_cons_zero]
            go_wp2
            exact ⟨_, rfl, rfl, Grew.refl _⟩
          · rintro v0 v1 v2 v3 v4 v5 v6 v7 v8 v9 v10 v11 v12 v13 v14 v15 v16 v17 v18 _ rfl
            show wpList _ _ _ _ _ _
            simp only [Act.put, List.setIfInBounds_toArray, List.set_cons_succ, List.set_cons_zero]
            have hR := Grew.of_drew hR
            have hcc := (HC2.out hR)
            go_wp2
            exact ⟨_, rfl, rfl, Grew.refl _⟩
          · rintro v0 v1 v2 v3 v4 v5 v6 v7 v8 v9 v10 v11 v12 v13 v14 _ rfl v16 v17 v18 v19 _ rfl
            show wpList _ _ _ _ _ _
            simp only [Act.put, List.setIfInBounds_toArray, List.set_cons_succ, List.set_cons_zero]
            go_wp2
            exact ⟨_, rfl, rfl, Grew.refl _⟩
          · rintro v0 v1 v2 v3 v4 v5 v6 v7 v8 v9 v10 v11 v12 v13 v14 v15 v16 v17 v18 v19 v20 v21
            show wpList _ _ _ _ _ _
            simp only [Act.put, List.setIfInBounds_toArray, List.set_cons_succ, List.set_cons_zero]
            go_wp2
            exact ⟨_, rfl, rfl, Grew.refl _⟩
          · rintro v0 v1 v2 v3 v4 v5 v6 v7 v8 v9 v10 v11 v12 v13 v14 v15 v16 v17 v18 v19 v20 v21 v22
            show wpList _ _ _ _ _ _
            simp only [Act.put, List.setIfInBounds_toArray, List.set_cons_succ, List.set_cons_zero]
            go_wp2
            exact ⟨_, rfl, rfl, Grew.refl _⟩
          · rintro v0 v1 v2 v3 v4 v5 v6 v7 v8 v9 v10 v11 v12 v13 v14 v15 v16 v17 v18 v19 v20 v21 _ rfl _ rfl
            show wpList _ _ _ _ _ _
            simp only [Act.put, List.setIfInBounds_toArray, List.set_cons_succ, List.set_cons_zero]
            go_wp2
            exact ⟨_, rfl, rfl, Grew.refl _⟩
          · rintro v0 v1 v2 v3 v4 v5 v6 v7 v8 v9 v10 v11 v12 v13 v14 v15 v16 v17 v18 v19 v20 v21 v22 v23 _ rfl
            show wpList _ _ _ _ _ _
            simp only [Act.put, List.setIfInBounds_toArray, List.set_cons_succ, List.set_cons_zero]
            go_wp2
            exact ⟨_, rfl, rfl, Grew.refl _⟩
          · rintro v0 v1 v2 v3 v4 v5 v6 v7 v8 v9 v10 v11 v12 v13 v14 v15 v16 v17 v18 v19 v20 v21 v22 v23 v24 _ rfl
            show wpList _ _ _ _ _ _
            simp only [Act.put, List.setIfInBounds_toArray, List.set_cons_succ, List.set_cons_zero]
            have hR := Grew.of_drew hR
            have hcc := (HC3.out hR)
            go_wp2
            exact ⟨_, rfl, rfl, Grew.refl _⟩
          · rintro v0 v1 v2 v3 v4 v5 v6 v7 v8 v9 v10 v11 v12 v13 v14 v15 v16 v17 v18 v19 v20 _ rfl v22 v23 v24 v25 _ rfl
            show wpList _ _ _ _ _ _
            simp only [Act.put, List.setIfInBounds_toArray, List.set_cons_succ, List.set_cons_zero]
            go_wp2_with (go_at_call 19; refine (rdown_ _ _ _ hp1 hp2 hd1 hd2).mono ?_; rintro e w5 ⟨rfl, rfl⟩)
            exact ⟨_, rfl, rfl, Grew.refl _⟩
          · rintro v0 v1 v2 v3 v4 v5 v6 v7 v8 v9 v10 v11 v12 v13 v14 v15 v16 v17 v18 v19 v20 v21 v22 v23 v24 v25 v26 v27
            show wpList _ _ _ _ _ _
            simp only [Act.put, List.setIfInBounds_toArray, List.set_cons_succ, List.set_cons_zero]
            go_wp2
            exact ⟨_, rfl, rfl, Grew.refl _⟩
          · rintro v0 v1 v2 v3 v4 v5 v6 v7 v8 v9 v10 v11 v12 v13 v14 v15 v16 v17 v18 v19 v20 v21 v22 v23 v24 v25 v26 v27 v28
            show wpList _ _ _ _ _ _
            simp only [Act.put, List.setIfInBounds_toArray, List.set_cons_succ, List.set_cons_zero]
            go_wp2
            exact ⟨_, rfl, rfl, Grew.refl _⟩
          · rintro v0 v1 v2 v3 v4 v5 v6 v7 v8 v9 v10 v11 v12 v13 v14 v15 v16 v17 v18 v19 v20 v21 v22 v23 v24 v25 v26 v27 _ rfl _ rfl
            show wpList _ _ _ _ _ _
            simp only [Act.put, List.setIfInBounds_toArray, List.set_cons_succ, List.set_cons_zero]
            go_wp2
            exact ⟨_, rfl, rfl, Grew.refl _⟩
          · rintro v0 v1 v2 v3 v4 v5 v6 v7 v8 v9 v10 v11 v12 v13 v14 v15 v16 v17 v18 v19 v20 v21 v22 v23 v24 v25 v26 v27 v28 v29 _ rfl
            show wpList _ _ _ _ _ _
            simp only [Act.put, List.setIfInBounds_toArray, List.set_cons_succ, List.set_cons_zero]
            go_wp2
            exact ⟨_, rfl, rfl, Grew.refl _⟩
          · rintro v0 v1 v2 v3 v4 v5 v6 v7 v8 v9 v10 v11 v12 v13 v14 v15 v16 v17 v18 v19 v20 v21 v22 v23 v24 v25 v26 v27 v28 v29 v30 _ rfl
            show wpList _ _ _ _ _ _
            simp only [Act.put, List.setIfInBounds_toArray, List.set_cons_succ, List.set_cons_zero]
            have hR := Grew.of_drew hR
            have hcc := (HC4.out hR)
            go_wp2
            exact ⟨_, rfl, rfl, Grew.refl _⟩
          · rintro v0 v1 v2 v3 v4 v5 v6 v7 v8 v9 v10 v11 v12 v13 v14 v15 v16 v17 v18 v19 v20 v21 v22 v23 v24 v25 v26 _ rfl v28 v29 v30 v31 _ rfl
            show wpList _ _ _ _ _ _
            simp only [Act.put, List.setIfInBounds_toArray, List.set_cons_succ, List.set_cons_zero]
            go_wp2
            exact ⟨_, rfl, rfl, Grew.refl _⟩
          · rintro v0 v1 v2 v3 v4 v5 v6 v7 v8 v9 v10 v11 v12 v13 v14 v15 v16 v17 v18 v19 v20 v21 v22 v23 v24 v25 v26 _ rfl v28 v29 v30 v31 v32 _ rfl
            show wpList _ _ _ _ _ _
            simp only [Act.put, List.setIfInBounds_toArray, List.set_cons_succ, List.set_cons_zero]
            go_wp2_with (go_at_call 18; refine (fclip _ _).mono ?_; rintro e w5 ⟨rfl, rfl⟩)
            exact ⟨_, rfl, rfl, Grew.refl _⟩
          · rintro v0 v1 v2 v3 v4 v5 v6 _ rfl v8 v9 v10 v11 v12 v13 v14 v15 v16 v17 v18 v19 v20 v21 v22 v23 v24 v25 v26 v27 v28 v29 v30 v31 v32 v33 _ rfl
            show wpList _ _ _ _ _ _
            simp only [Act.put, List.setIfInBounds_toArray, List.set_cons_succ, List.set_cons_zero]
            go_wp2
            exact ⟨_, rfl, congrArg Value.bool (by simp), Grew.refl _⟩
        case finA =>
          rintro w' hR _ rfl _ rfl _ rfl _ rfl _ rfl _ rfl _ rfl _ rfl _ rfl _ rfl _ rfl _ rfl _ rfl _ rfl _ rfl _ rfl _ rfl _ rfl _ rfl _ rfl _ rfl _ rfl _ rfl _ rfl _ rfl _ rfl _ rfl _ rfl _ rfl _ rfl _ rfl _ rfl _ rfl _ rfl _ rfl _ rfl
          show wpList _ _ _ _ _ _
          simp only [Act.put, List.setIfInBounds_toArray, List.set_cons_succ, List.set_cons_zero, List.drop_succ_cons, List.drop_zero, List.drop_nil]
          have hR := Grew.of_drew hR
          go_wp2
          go_roundw
          case rel => exact ⟨k + 1, by omega, by go_num, HBS.out.grew hR, HBW.out.trans (hR.mono (by rw [setCell_size]; omega))⟩
          case measure => simp [intOf]; omega
      · have HE : Hid (ls.take k = ls) := List.take_of_length_le (by rw [HSL.out.1]; omega)
        rw [HE.out] at hblk
        have HBK := Lib.hid hblk
        have hgs := hblk.lt
        clear hblk HE
        go_wp2
        rename World => wq
        have HBL : Hid (Grew w3 wq) := hbl
        clear hbl
        go_loopw [9] (fun i wr => ∃ p : Nat, p ≤ m2 ∧ i = .int .i64 p ∧ Grew wq wr) (fun i _ => m2 - (intOf i).toNat)
        case atStart => exact ⟨0, Nat.zero_le _, rfl, Grew.refl _⟩
        case round =>
          obtain ⟨p, hp, rfl, hg2⟩ := hrel
          by_cases hlt2 : p < m2
          · have hgg : Grew w3 wr := HBL.out.trans hg2
            obtain ⟨b2, off2, hA2, hb2, hcell2⟩ := (S3.out.grew hgg).2 (by omega)
            obtain ⟨b5, off5, hA5, hb5, hcell5⟩ := (HVL.out.grew hgg).2 (by omega)
            rw [hA2, hA5]
            have hgl : w3.heap.size < wr.heap.size := (HBK.out.grew hg2).lt
            have d1 := hcell2 p hlt2
            have d2 := hcell5 p hlt2
            have hbc : ∀ {w' : World}, Grew wr w' → w'.cell? ⟨w3.heap.size, p, none⟩ = some (.bool (decide ((p : Int) ∈ ls.map Lk.to))) := fun h => by
              rw [((HBK.out.grew hg2).grew h).cell, cellOfB _ _ (by rw [tgtL_length]; omega), tgtL_getD _ _ _ hlt2]
            have hfx := HFX.out p hlt2
            by_cases hin : (p : Int) ∈ ls.map Lk.to
            · have HTG : Hid (∀ {w' : World}, Grew wr w' → w'.cell? ⟨w3.heap.size, p, none⟩ = some (.bool true)) := fun h => by rw [hbc h, decide_eq_true hin]
              clear hcell2 hcell5 hA2 hA5 hbc hin d1 d2 hfx
              go_wp2_with fail
              refine RG.wp_region_rg 17 (fun a b => Grew a b) [fun u _ => u = .slice (some ⟨w3.heap.size, 0, none⟩) m2 m2, fun u _ => u = .int .i64 p, fun u _ => u = .pointer (some ⟨w3.heap.size, p, none⟩), fun u _ => u = .bool true, fun u _ => u = .bool false, fun u _ => u = .bool false, fun u _ => u = undef, fun u _ => u = undef, fun u _ => u = undef, fun u _ => u = undef, fun u _ => u = undef, fun u _ => u = undef, fun u _ => u = undef, fun u _ => u = undef, fun u _ => u = undef, fun u _ => u = undef, fun u _ => u = .bool false] Try.mixed (by kernel_rfl) rfl (Grew.refl _) (fun _ _ _ a b => a.trans b) ?stB ?obB ?finB
              case stB => exact ⟨fun _ _ _ _ h _ => h, fun _ _ _ _ h _ => h, fun _ _ _ _ h _ => h, fun _ _ _ _ h _ => h, fun _ _ _ _ h _ => h, fun _ _ _ _ h _ => h, fun _ _ _ _ h _ => h, fun _ _ _ _ h _ => h, fun _ _ _ _ h _ => h, fun _ _ _ _ h _ => h, fun _ _ _ _ h _ => h, fun _ _ _ _ h _ => h, fun _ _ _ _ h _ => h, fun _ _ _ _ h _ => h, fun _ _ _ _ h _ => h, fun _ _ _ _ h _ => h, fun _ _ _ _ h _ => h, trivial⟩
              case obB =>
                refine ⟨fun w' hR => ?_, fun w' hR => ?_, fun w' hR => ?_, fun w' hR => ?_, fun w' hR => ?_, fun w' hR => ?_, fun w' hR => ?_, fun w' hR => ?_, fun w' hR => ?_, fun w' hR => ?_, fun w' hR => ?_, fun w' hR => ?_, fun w' hR => ?_, fun w' hR => ?_, fun w' hR => ?_, fun w' hR => ?_, fun w' hR => ?_, trivial⟩
                · show wpList _ _ _ _ _ _
                  go_wp2
                  exact ⟨_, rfl, rfl, Grew.refl _⟩
                · rintro v0
                  show wpList _ _ _ _ _ _
                  simp only [Act.put, List.setIfInBounds_toArray, List.set_cons_succ, List.set_cons_zero]
                  go_wp2
                  exact ⟨_, rfl, rfl, Grew.refl _⟩
                · rintro _ rfl _ rfl
                  show wpList _ _ _ _ _ _
                  simp only [Act.put, List.setIfInBounds_toArray, List.set_cons_succ, List.set_cons_zero]
                  go_wp2
                  exact ⟨_, rfl, rfl, Grew.refl _⟩
                · rintro v0 v1 _ rfl
                  show wpList _ _ _ _ _ _
                  simp only [Act.put, List.setIfInBounds_toArray, List.set_cons_succ, List.set_cons_zero]
                  have hR := Grew.of_drew hR
                  have hcc := (HTG.out hR)
                  go_wp2
                  exact ⟨_, rfl, rfl, Grew.refl _⟩
                · rintro v0 v1 v2 _ rfl
                  show wpList _ _ _ _ _ _
                  simp only [Act.put, List.setIfInBounds_toArray, List.set_cons_succ, List.set_cons_zero]
                  go_wp2
                  exact ⟨_, rfl, rfl, Grew.refl _⟩
                · rintro v0 v1 v2 v3 _ rfl
                  show wpList _ _ _ _ _ _
                  simp only [Act.put, List.setIfInBounds_toArray, List.set_cons_succ, List.set_cons_zero]
                  go_wp2
                  exact ⟨_, rfl, rfl, Grew.refl _⟩
                · rintro v0 v1 v2 v3 v4 _ rfl
                  show wpList _ _ _ _ _ _
                  simp only [Act.put, List.setIfInBounds_toArray, List.set_cons_succ, List.set_cons_zero]
                  go_wp2
                  exact ⟨_, rfl, rfl, Grew.refl _⟩
                · rintro v0 v1 v2 v3 v4 _ rfl v6
                  show wpList _ _ _ _ _ _
                  simp only [Act.put, List.setIfInBounds_toArray, List.set_cons_succ, List.set_cons_zero]
                  go_wp2
                  exact ⟨_, rfl, rfl, Grew.refl _⟩
                · rintro v0 v1 v2 v3 v4 _ rfl _ rfl _ rfl
                  show wpList _ _ _ _ _ _
                  simp only [Act.put, List.setIfInBounds_toArray, List.set_cons_succ, List.set_cons_zero]
                  go_wp2
                  exact ⟨_, rfl, rfl, Grew.refl _⟩
                · rintro v0 v1 v2 v3 v4 _ rfl v6 v7 _ rfl
                  show wpList _ _ _ _ _ _
                  simp only [Act.put, List.setIfInBounds_toArray, List.set_cons_succ, List.set_cons_zero]
                  go_wp2
                  exact ⟨_, rfl, rfl, Grew.refl _⟩
                · rintro v0 v1 v2 v3 v4 _ rfl v6 v7 v8 v9
                  show wpList _ _ _ _ _ _
                  simp only [Act.put, List.setIfInBounds_toArray, List.set_cons_succ, List.set_cons_zero]
                  go_wp2
                  exact ⟨_, rfl, rfl, Grew.refl _⟩
                · rintro v0 v1 v2 v3 v4 _ rfl v6 v7 v8 v9 v10
                  show wpList _ _ _ _ _ _
                  simp only [Act.put, List.setIfInBounds_toArray, List.set_cons_succ, List.set_cons_zero]
                  go_wp2
                  exact ⟨_, rfl, rfl, Grew.refl _⟩
                · rintro v0 v1 v2 v3 v4 _ rfl v6 v7 v8 v9 _ rfl _ rfl
                  show wpList _ _ _ _ _ _
                  simp only [Act.put, List.setIfInBounds_toArray, List.set_cons_succ, List.set_cons_zero]
                  go_wp2
                  exact ⟨_, rfl, rfl, Grew.refl _⟩
                · rintro v0 v1 v2 v3 v4 _ rfl v6 v7 v8 v9 v10 v11 _ rfl
                  show wpList _ _ _ _ _ _
                  simp only [Act.put, List.setIfInBounds_toArray, List.set_cons_succ, List.set_cons_zero]
                  go_wp2
                  exact ⟨_, rfl, rfl, Grew.refl _⟩
                · rintro v0 v1 v2 v3 v4 _ rfl v6 v7 v8 v9 v10 v11 v12 _ rfl
                  show wpList _ _ _ _ _ _
                  simp only [Act.put, List.setIfInBounds_toArray, List.set_cons_succ, List.set_cons_zero]
                  go_wp2
                  exact ⟨_, rfl, rfl, Grew.refl _⟩
                · rintro v0 v1 v2 v3 v4 _ rfl v6 v7 v8 _ rfl v10 v11 v12 v13 _ rfl
                  show wpList _ _ _ _ _ _
                  simp only [Act.put, List.setIfInBounds_toArray, List.set_cons_succ, List.set_cons_zero]
                  go_wp2
                  exact ⟨_, rfl, rfl, Grew.refl _⟩
                · rintro v0 v1 v2 v3 v4 _ rfl v6 v7 v8 v9 v10 v11 v12 v13 v14 _ rfl
                  show wpList _ _ _ _ _ _
                  simp only [Act.put, List.setIfInBounds_toArray, List.set_cons_succ, List.set_cons_zero]
                  go_wp2
                  exact ⟨_, rfl, rfl, Grew.refl _⟩
              case finB =>
                rintro w' hR _ rfl _ rfl _ rfl _ rfl _ rfl _ rfl _ rfl _ rfl _ rfl _ rfl _ rfl _ rfl _ rfl _ rfl _ rfl _ rfl _ rfl
                show wpList _ _ _ _ _ _
                simp only [Act.put, List.setIfInBounds_toArray, List.set_cons_succ, List.set_cons_zero, List.drop_succ_cons, List.drop_zero, List.drop_nil]
                have hR := Grew.of_drew hR
                go_wp2
                go_roundw
                case rel => exact ⟨p + 1, by omega, by go_num, hg2.trans hR⟩
                case measure => simp [intOf]; omega
            · have HTG : Hid (∀ {w' : World}, Grew wr w' → w'.cell? ⟨w3.heap.size, p, none⟩ = some (.bool false)) := fun h => by rw [hbc h, decide_eq_false hin]
              have hwant : want ls vs xx p = clip (vs.getD p 0) := by unfold want; rw [src_none.2 hin]; rfl
              rw [hwant] at hfx
              rw [hfx] at d1
              generalize vs.getD p 0 = y at *
              have HXP : Hid (∀ {w' : World}, Grew wr w' → w'.cell? ⟨b2, off2 + p, none⟩ = some (.int .i64 (clip y))) := fun h => by rw [h.cell hb2]; exact d1
              have HVP : Hid (∀ {w' : World}, Grew wr w' → w'.cell? ⟨b5, off5 + p, none⟩ = some (.int .i64 y)) := fun h => by rw [h.cell hb5]; exact d2
              clear hcell2 hcell5 hA2 hA5 hbc hin d1 d2 hfx hwant
              go_wp2_with fail
              refine RG.wp_region_rg 17 (fun a b => Grew a b) [fun u _ => u = .slice (some ⟨w3.heap.size, 0, none⟩) m2 m2, fun u _ => u = .int .i64 p, fun u _ => u = .pointer (some ⟨w3.heap.size, p, none⟩), fun u _ => u = .bool false, fun u _ => u = .bool true, fun u _ => u = .bool true, fun u _ => u = .slice (some ⟨b2, off2, none⟩) m2 c2, fun u _ => u = .int .i64 p, fun u _ => u = .pointer (some ⟨b2, off2 + p, none⟩), fun u _ => u = .int .i64 (clip y), fun u _ => u = .slice (some ⟨b5, off5, none⟩) m2 d, fun u _ => u = .int .i64 p, fun u _ => u = .pointer (some ⟨b5, off5 + p, none⟩), fun u _ => u = .int .i64 y, fun u _ => u = .int .i64 (clip y), fun u _ => u = .bool false, fun u _ => u = .bool false] Try.mixed (by kernel_rfl) rfl (Grew.refl _) (fun _ _ _ a b => a.trans b) ?stC ?obC ?finC
              case stC => exact ⟨fun _ _ _ _ h _ => h, fun _ _ _ _ h _ => h, fun _ _ _ _ h _ => h, fun _ _ _ _ h _ => h, fun _ _ _ _ h _ => h, fun _ _ _ _ h _ => h, fun _ _ _ _ h _ => h, fun _ _ _ _ h _ => h, fun _ _ _ _ h _ => h, fun _ _ _ _ h _ => h, fun _ _ _ _ h _ => h, fun _ _ _ _ h _ => h, fun _ _ _ _ h _ => h, fun _ _ _ _ h _ => h, fun _ _ _ _ h _ => h, fun _ _ _ _ h _ => h, fun _ _ _ _ h _ => h, trivial⟩
              case obC =>
                refine ⟨fun w' hR => ?_, fun w' hR => ?_, fun w' hR => ?_, fun w' hR => ?_, fun w' hR => ?_, fun w' hR => ?_, fun w' hR => ?_, fun w' hR => ?_, fun w' hR => ?_, fun w' hR => ?_, fun w' hR => ?_, fun w' hR => ?_, fun w' hR => ?_, fun w' hR => ?_, fun w' hR => ?_, fun w' hR => ?_, fun w' hR => ?_, trivial⟩
                · show wpList _ _ _ _ _ _
                  go_wp2
                  exact ⟨_, rfl, rfl, Grew.refl _⟩
                · rintro v0
                  show wpList _ _ _ _ _ _
                  simp only [Act.put, List.setIfInBounds_toArray, List.set_cons_succ, List.set_cons_zero]
                  go_wp2
                  exact ⟨_, rfl, rfl, Grew.refl _⟩
                · rintro _ rfl _ rfl
                  show wpList _ _ _ _ _ _
                  simp only [Act.put, List.setIfInBounds_toArray, List.set_cons_succ, List.set_cons_zero]
                  go_wp2
                  exact ⟨_, rfl, rfl, Grew.refl _⟩
                · rintro v0 v1 _ rfl
                  show wpList _ _ _ _ _ _
                  simp only [Act.put, List.setIfInBounds_toArray, List.set_cons_succ, List.set_cons_zero]
                  have hR := Grew.of_drew hR
                  have hcc := (HTG.out hR)
                  go_wp2
                  exact ⟨_, rfl, rfl, Grew.refl _⟩
                · rintro v0 v1 v2 _ rfl
                  show wpList _ _ _ _ _ _
                  simp only [Act.put, List.setIfInBounds_toArray, List.set_cons_succ, List.set_cons_zero]
                  go_wp2
                  exact ⟨_, rfl, rfl, Grew.refl _⟩
                · rintro v0 v1 v2 v3 _ rfl
                  show wpList _ _ _ _ _ _
                  simp only [Act.put, List.setIfInBounds_toArray, List.set_cons_succ, List.set_cons_zero]
                  go_wp2
                  exact ⟨_, rfl, rfl, Grew.refl _⟩
                · rintro v0 v1 v2 v3 v4 _ rfl
                  show wpList _ _ _ _ _ _
                  simp only [Act.put, List.setIfInBounds_toArray, List.set_cons_succ, List.set_cons_zero]
                  go_wp2
                  exact ⟨_, rfl, rfl, Grew.refl _⟩
                · rintro v0 v1 v2 v3 v4 _ rfl v6
                  show wpList _ _ _ _ _ _
                  simp only [Act.put, List.setIfInBounds_toArray, List.set_cons_succ, List.set_cons_zero]
                  go_wp2
                  exact ⟨_, rfl, rfl, Grew.refl _⟩
                · rintro v0 v1 v2 v3 v4 _ rfl _ rfl _ rfl
                  show wpList _ _ _ _ _ _
                  simp only [Act.put, List.setIfInBounds_toArray, List.set_cons_succ, List.set_cons_zero]
                  go_wp2
                  exact ⟨_, rfl, rfl, Grew.refl _⟩
                · rintro v0 v1 v2 v3 v4 _ rfl v6 v7 _ rfl
                  show wpList _ _ _ _ _ _
                  simp only [Act.put, List.setIfInBounds_toArray, List.set_cons_succ, List.set_cons_zero]
                  have hR := Grew.of_drew hR
                  have hcc := (HXP.out hR)
                  go_wp2
                  exact ⟨_, rfl, rfl, Grew.refl _⟩
                · rintro v0 v1 v2 v3 v4 _ rfl v6 v7 v8 v9
                  show wpList _ _ _ _ _ _
                  simp only [Act.put, List.setIfInBounds_toArray, List.set_cons_succ, List.set_cons_zero]
                  go_wp2
                  exact ⟨_, rfl, rfl, Grew.refl _⟩
                · rintro v0 v1 v2 v3 v4 _ rfl v6 v7 v8 v9 v10
                  show wpList _ _ _ _ _ _
                  simp only [Act.put, List.setIfInBounds_toArray, List.set_cons_succ, List.set_cons_zero]
                  go_wp2
                  exact ⟨_, rfl, rfl, Grew.refl _⟩
                · rintro v0 v1 v2 v3 v4 _ rfl v6 v7 v8 v9 _ rfl _ rfl
                  show wpList _ _ _ _ _ _
                  simp only [Act.put, List.setIfInBounds_toArray, List.set_cons_succ, List.set_cons_zero]
                  go_wp2
                  exact ⟨_, rfl, rfl, Grew.refl _⟩
                · rintro v0 v1 v2 v3 v4 _ rfl v6 v7 v8 v9 v10 v11 _ rfl
                  show wpList _ _ _ _ _ _
                  simp only [Act.put, List.setIfInBounds_toArray, List.set_cons_succ, List.set_cons_zero]
                  have hR := Grew.of_drew hR
                  have hcc := (HVP.out hR)
                  go_wp2
                  exact ⟨_, rfl, rfl, Grew.refl _⟩
                · rintro v0 v1 v2 v3 v4 _ rfl v6 v7 v8 v9 v10 v11 v12 _ rfl
                  show wpList _ _ _ _ _ _
                  simp only [Act.put, List.setIfInBounds_toArray, List.set_cons_succ, List.set_cons_zero]
                  go_wp2_with (go_at_call 18; refine (fclip _ _).mono ?_; rintro e w5 ⟨rfl, rfl⟩)
                  exact ⟨_, rfl, rfl, Grew.refl _⟩
                · rintro v0 v1 v2 v3 v4 _ rfl v6 v7 v8 _ rfl v10 v11 v12 v13 _ rfl
                  show wpList _ _ _ _ _ _
                  simp only [Act.put, List.setIfInBounds_toArray, List.set_cons_succ, List.set_cons_zero]
                  go_wp2
                  exact ⟨_, rfl, congrArg Value.bool (by simp), Grew.refl _⟩
                · rintro v0 v1 v2 v3 v4 _ rfl v6 v7 v8 v9 v10 v11 v12 v13 v14 _ rfl
                  show wpList _ _ _ _ _ _
                  simp only [Act.put, List.setIfInBounds_toArray, List.set_cons_succ, List.set_cons_zero]
                  go_wp2
                  exact ⟨_, rfl, rfl, Grew.refl _⟩
              case finC =>
                rintro w' hR _ rfl _ rfl _ rfl _ rfl _ rfl _ rfl _ rfl _ rfl _ rfl _ rfl _ rfl _ rfl _ rfl _ rfl _ rfl _ rfl _ rfl
                show wpList _ _ _ _ _ _
                simp only [Act.put, List.setIfInBounds_toArray, List.set_cons_succ, List.set_cons_zero, List.drop_succ_cons, List.drop_zero, List.drop_nil]
                have hR := Grew.of_drew hR
                go_wp2
                go_roundw
                case rel => exact ⟨p + 1, by omega, by go_num, hg2.trans hR⟩
                case measure => simp [intOf]; omega
          · go_wp2
            go_ret
            exact ⟨rfl, (G.out.trans HBL.out).trans hg2⟩
  · have hvr : valR ls vs = ([], (ordR n ls).2) := by unfold valR; rw [HN.out, if_neg hok]
    rw [hvr] at s2 ⊢
    dsimp only at s2 ⊢
    have hm2 : m2 = 0 := by have := s2.1; simpa using this.symm
    subst hm2
    have hne : ((ordR n ls).2 != 0) = true := bne_iff_ne.2 hok
    have G := Lib.hid (g1.trans g2)
    generalize (ordR n ls).2 = er at *
    clear s2 g1 g2 hvr hok
    go_wp2
    go_ret
    exact ⟨rfl, G.out⟩
end Go.Proofs.Ytnihkdmdbmnniaa
