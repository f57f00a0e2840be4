/- The contract of ref.Values. -/
import Derived.Test.YtnihkdmdbmnniaaW13
set_option linter.unusedSimpArgs false
namespace Go.Proofs.Ytnihkdmdbmnniaa
open Go.RowKit

set_option maxRecDepth 100000 in
set_option maxHeartbeats 2000000 in
theorem rvalues_ (A : Option Addr) (m c : Nat) (ls : List Lk) (B : Option Addr) (n d : Nat) (vs : List Int) (w : World) (hs : SlL w A m ls) (ht : Sl w B n vs) :
    Calls Try.prog 17 #[.slice A m c, .slice B n d] w (ValV w ls vs) := by
  have HS := Lib.hid hs
  have HT := Lib.hid ht
  have HN : Hid (vs.length = n) := ht.1
  clear hs ht
  go_enter Try.func17, Try.ntmps17
  go_wp2_with fail
  refine (rorder_ _ _ _ _ _ _ HS.out).mono ?_
  rintro e w2 ⟨g2, A1, m1, c1, s1, _, rfl⟩
  by_cases hok : (ordR n ls).2 = 0
  · obtain ⟨o1, o2, o3, o4, o5⟩ := ordR_ok hok
    obtain ⟨o6, o7⟩ := badL_spec o4
    have HND := Lib.hid ((mapOf_len ls).2.1 o6)
    rw [Int.toNat_natCast] at o5
    obtain ⟨o8, o9⟩ := ordK_mem ls n n _ o5
    have HV : Hid (valR ls vs = (valL ls vs (ordR n ls).1, 0)) := by unfold valR; rw [HN.out, if_pos hok]; rfl
    rw [hok]
    have S1 := Lib.hid s1
    have hm1 : m1 = n := by have := s1.1; omega
    obtain ⟨os, hos⟩ : ∃ os, os = (ordR n ls).1 := ⟨_, rfl⟩
    rw [← hos] at S1 HV o8 o9
    have O7 := Lib.hid o7
    have O9 := Lib.hid o9
    have O8 := Lib.hid o8
    subst hm1
    have hml : m ≤ 256 := by rw [← HS.out.1]; exact o3
    have hnl : m1 ≤ 256 := by omega
    clear s1 hos hok o1 o2 o3 o4 o5 o6 o7 o8 o9
    obtain ⟨i0, hi, hz0, hz1, hz2⟩ := info_parts Try.info3
    go_wp2_with (at_make; refine wpList_make_full _ rfl _ _ 27 rfl w2.heap.size 3 i0 (.int .i64 0) 1 Try.underlying27 hi hz0 hz1 .i64 .i64 m1 m1 m1 rfl rfl rfl rfl (by rw [hz2]; omega) (by unfold maxLen; omega) (Nat.le_refl _) ?_; intro w3 hown3 hgrow3)
    have hb0 : Blk w3 w2.heap.size 3 ((List.replicate m1 (0 : Int)).map (Value.int .i64)).toArray := by
      have := own_blk hown3
      rw [Nat.mul_one, show (Value.int IntKind.i64 0).cells = #[Value.int IntKind.i64 0] from rfl, toList_madeCells_one] at this
      simpa using this
    have hbl0 : Below w2.heap.size w2 w3 := (Below.refl _ _).grown hgrow3 (Nat.le_refl _) (fun k e => by cases e)
    clear hown3 hgrow3
    go_loopw [9] (fun i wr => ∃ j : Nat, j ≤ m1 ∧ i = .int .i64 j ∧ Blk wr w2.heap.size 3 (((os.take j).foldl (valStep ls vs) (List.replicate m1 0)).map (Value.int .i64)).toArray ∧ Below w2.heap.size w2 wr) (fun i _ => m1 - (intOf i).toNat)
    case atStart => exact ⟨0, Nat.zero_le _, rfl, hb0, hbl0⟩
    case round =>
      obtain ⟨j, hj, rfl, hblk, hbl⟩ := hrel
      clear hb0 hbl0
      by_cases hlt : j < m1
      · have hjo : j < os.length := by rw [O8.out]; exact hlt
        obtain ⟨q, hq, hpq⟩ := O9.out (os.getD j 0) (by simp [List.getD, hjo])
        have hge : Grew w2 wr := hbl
        obtain ⟨b1, off1, hA1, hb1, hcell⟩ := (S1.out.grew hge).2 (by omega)
        have hck := hcell j hlt
        rw [hpq] at hck
        subst hA1
        clear hcell
        have HX : Hid ((os.take (j + 1)).foldl (valStep ls vs) (List.replicate m1 0) = valStep ls vs ((os.take j).foldl (valStep ls vs) (List.replicate m1 0)) q) := by
          rw [take_snoc os j hjo, List.foldl_append, hpq]; rfl
        have hlen : ((os.take j).foldl (valStep ls vs) (List.replicate m1 0)).length = m1 := by rw [foldl_valStep_length]; simp
        have hsm := smp_valK ls vs os j
        rw [HN.out] at hsm
        have HSM := Lib.hid hsm
        have HLEN := Lib.hid hlen
        have hgs := hblk.lt
        clear hsm hlen hjo hpq
        generalize (os.take j).foldl (valStep ls vs) (List.replicate m1 0) = x at *
        have HBLK := Lib.hid hblk
        clear hblk
        go_wp2_with fail
        refine (link_ _ _ _ _ _ _ (HS.out.grew (g2.trans hge)) hml).mono ?_
        rintro e w4 ⟨rfl, r, hr, rfl⟩
        rcases hr with ⟨rfl, hno⟩ | ⟨i, rfl, hil, hto⟩
        · have hsrc := src_none.2 hno
          have HXN : Hid ((os.take (j + 1)).foldl (valStep ls vs) (List.replicate m1 0) = x.set q (clip (vs.getD q 0))) := by rw [HX.out]; unfold valStep; rw [hsrc]; rfl
          clear hsrc hno
          obtain ⟨b2, off2, hB, hb2, hcell2⟩ := (HT.out.grew (g2.trans hge)).2 (by omega)
          have hcv := hcell2 q hq
          subst hB
          clear hcell2
          have hcg := HBLK.out.cell q
          rw [cellOf x q (by rw [HLEN.out]; exact hq)] at hcg
          have hfg := HBLK.out.frozen q
          generalize vs.getD q 0 = y at *
          go_wp2_with (go_at_call 30; refine (rclip _ _).mono ?_; rintro e w5 ⟨rfl, rfl⟩)
          have hb7 := (HBLK.out.set q (.int .i64 (clip y)))
          rw [set_map] at hb7
          have hbb : Below w2.heap.size w2 (wr.setCell ⟨w2.heap.size, q, none⟩ (.int .i64 (clip y))) := Below.setCell hbl (Nat.le_refl _) _
          go_roundw
          case rel => exact ⟨j + 1, by omega, by go_num, by rw [HXN.out]; exact hb7, hbb⟩
          case measure => simp [intOf]; omega
        · have hmem : ls.getD i Lk.z ∈ ls := by simp [List.getD, hil]
          have hsrc := src_of_mem HND.out hmem
          rw [hto] at hsrc
          obtain ⟨⟨f0, f1⟩, _, _, hnum, ⟨hd1, hd2⟩, ha⟩ := okL_spec (O7.out _ hmem)
          have him : i < m := by rw [← HS.out.1]; exact hil
          obtain ⟨b, off, hA, hb, hcell⟩ := (HS.out.grew (g2.trans hge)).2 (by omega)
          obtain ⟨c0, c1, c2, c3, c4⟩ := hcell i him
          have HC0 : Hid (∀ {w' : World}, Grew wr w' → w'.cell? ⟨b, off + i * 5, none⟩ = some (.int .i64 (ls.getD i Lk.z).fr)) := fun g => (g.cell hb).trans c0
          have HC2 : Hid (∀ {w' : World}, Grew wr w' → w'.cell? ⟨b, off + i * 5 + 2, none⟩ = some (.int .i64 (ls.getD i Lk.z).num)) := fun g => (g.cell hb).trans c2
          have HC3 : Hid (∀ {w' : World}, Grew wr w' → w'.cell? ⟨b, off + i * 5 + 3, none⟩ = some (.int .i64 (ls.getD i Lk.z).den)) := fun g => (g.cell hb).trans c3
          have HC4 : Hid (∀ {w' : World}, Grew wr w' → w'.cell? ⟨b, off + i * 5 + 4, none⟩ = some (.int .i64 (ls.getD i Lk.z).add)) := fun g => (g.cell hb).trans c4
          subst hA
          clear hcell c0 c1 c2 c3 c4
          generalize ls.getD i Lk.z = kk at *
          have hfr : kk.fr.toNat < m1 := by omega
          have HXN : Hid ((os.take (j + 1)).foldl (valStep ls vs) (List.replicate m1 0) = x.set q (linkV kk (x.getD kk.fr.toNat 0))) := by rw [HX.out]; unfold valStep; rw [hsrc]; rfl
          have hxf := HSM.out kk.fr.toNat
          have HXF := Lib.hid (cellOf x kk.fr.toNat (by rw [HLEN.out]; exact hfr))
          have HXP := Lib.hid (cellOf x q (by rw [HLEN.out]; exact hq))
          generalize x.getD kk.fr.toNat 0 = xf at *
          obtain ⟨hp1, hp2⟩ := mul_bd xf kk.num hxf hnum
          obtain ⟨hq1, hq2⟩ := div_bd (xf * kk.num) kk.den hp1 hp2 hd1
          clear hsrc hmem hto hnum hxf
          go_wp2
          refine RG.wp_region_rg 29 (fun a b => Grew a b) [fun u _ => u = .slice (some ⟨w2.heap.size, 0, none⟩) m1 m1, fun u _ => u = .int .i64 q, fun u _ => u = .slice (some ⟨w2.heap.size, 0, none⟩) m1 m1, fun u _ => u = .slice (some ⟨b, off, none⟩) m c, fun u _ => u = .int .i64 i, fun u _ => u = .pointer (some ⟨b, off + i * 5, none⟩), fun u _ => u = .pointer (some ⟨b, off + i * 5, none⟩), fun u _ => u = .int .i64 kk.fr, fun u _ => u = .pointer (some ⟨w2.heap.size, kk.fr.toNat, none⟩), fun u _ => u = .int .i64 xf, fun u _ => u = .slice (some ⟨b, off, none⟩) m c, fun u _ => u = .int .i64 i, fun u _ => u = .pointer (some ⟨b, off + i * 5, none⟩), fun u _ => u = .pointer (some ⟨b, off + i * 5 + 2, none⟩), fun u _ => u = .int .i64 kk.num, fun u _ => u = .int .i64 (xf * kk.num), fun u _ => u = .slice (some ⟨b, off, none⟩) m c, fun u _ => u = .int .i64 i, fun u _ => u = .pointer (some ⟨b, off + i * 5, none⟩), fun u _ => u = .pointer (some ⟨b, off + i * 5 + 3, none⟩), fun u _ => u = .int .i64 kk.den, fun u _ => u = .int .i64 (xf * kk.num / kk.den), fun u _ => u = .slice (some ⟨b, off, none⟩) m c, fun u _ => u = .int .i64 i, fun u _ => u = .pointer (some ⟨b, off + i * 5, none⟩), fun u _ => u = .pointer (some ⟨b, off + i * 5 + 4, none⟩), fun u _ => u = .int .i64 kk.add, fun u _ => u = .int .i64 (xf * kk.num / kk.den + kk.add), fun u _ => u = .int .i64 (clip (xf * kk.num / kk.den + kk.add))] Try.mixed (by kernel_rfl) rfl (Grew.refl _) (fun _ _ _ a b => a.trans b) ?st ?ob ?fin
          case st => exact ⟨fun _ _ _ _ h _ => h, fun _ _ _ _ h _ => h, fun _ _ _ _ h _ => h, fun _ _ _ _ h _ => h, fun _ _ _ _ h _ => h, fun _ _ _ _ h _ => h, fun _ _ _ _ h _ => h, fun _ _ _ _ h _ => h, fun _ _ _ _ h _ => h, fun _ _ _ _ h _ => h, fun _ _ _ _ h _ => h, fun _ _ _ _ h _ => h, fun _ _ _ _ h _ => h, fun _ _ _ _ h _ => h, fun _ _ _ _ h _ => h, fun _ _ _ _ h _ => h, fun _ _ _ _ h _ => h, fun _ _ _ _ h _ => h, fun _ _ _ _ h _ => h, fun _ _ _ _ h _ => h, fun _ _ _ _ h _ => h, fun _ _ _ _ h _ => h, fun _ _ _ _ h _ => h, fun _ _ _ _ h _ => h, fun _ _ _ _ h _ => h, fun _ _ _ _ h _ => h, fun _ _ _ _ h _ => h, fun _ _ _ _ h _ => h, fun _ _ _ _ h _ => h, trivial⟩
          case ob =>
            refine ⟨fun w' hR => ?_, fun w' hR => ?_, fun w' hR => ?_, fun w' hR => ?_, fun w' hR => ?_, fun w' hR => ?_, fun w' hR => ?_, fun w' hR => ?_, fun w' hR => ?_, fun w' hR => ?_, fun w' hR => ?_, fun w' hR => ?_, fun w' hR => ?_, fun w' hR => ?_, fun w' hR => ?_, fun w' hR => ?_, fun w' hR => ?_, fun w' hR => ?_, fun w' hR => ?_, fun w' hR => ?_, fun w' hR => ?_, fun w' hR => ?_, fun w' hR => ?_, fun w' hR => ?_, fun w' hR => ?_, fun w' hR => ?_, fun w' hR => ?_, fun w' hR => ?_, fun w' hR => ?_, trivial⟩
            · show wpList _ _ _ _ _ _
              go_wp2
              exact ⟨_, rfl, rfl, Grew.refl _⟩
            · rintro v0
              show wpList _ _ _ _ _ _
              simp only [Act.put, List.setIfInBounds_toArray, List.set_cons_succ, List.set_cons_zero]
              go_wp2
              exact ⟨_, rfl, rfl, Grew.refl _⟩
            · rintro v0 v1
              show wpList _ _ _ _ _ _
              simp only [Act.put, List.setIfInBounds_toArray, List.set_cons_succ, List.set_cons_zero]
              go_wp2
              exact ⟨_, rfl, rfl, Grew.refl _⟩
            · rintro v0 v1 v2
              show wpList _ _ _ _ _ _
              simp only [Act.put, List.setIfInBounds_toArray, List.set_cons_succ, List.set_cons_zero]
              go_wp2
              exact ⟨_, rfl, rfl, Grew.refl _⟩
            · rintro v0 v1 v2 v3
              show wpList _ _ _ _ _ _
              simp only [Act.put, List.setIfInBounds_toArray, List.set_cons_succ, List.set_cons_zero]
              go_wp2
              exact ⟨_, rfl, rfl, Grew.refl _⟩
            · rintro v0 v1 v2 _ rfl _ rfl
              show wpList _ _ _ _ _ _
              simp only [Act.put, List.setIfInBounds_toArray, List.set_cons_succ, List.set_cons_zero]
              go_wp2
              exact ⟨_, rfl, rfl, Grew.refl _⟩
            · rintro v0 v1 v2 v3 v4 _ rfl
              show wpList _ _ _ _ _ _
              simp only [Act.put, List.setIfInBounds_toArray, List.set_cons_succ, List.set_cons_zero]
              go_wp2
              exact ⟨_, rfl, rfl, Grew.refl _⟩
            · rintro v0 v1 v2 v3 v4 v5 _ rfl
              show wpList _ _ _ _ _ _
              simp only [Act.put, List.setIfInBounds_toArray, List.set_cons_succ, List.set_cons_zero]
              have hR := Grew.of_drew hR
              have hcc := (HC0.out hR)
              go_wp2
              exact ⟨_, rfl, rfl, Grew.refl _⟩
            · rintro v0 v1 _ rfl v3 v4 v5 v6 _ rfl
              show wpList _ _ _ _ _ _
              simp only [Act.put, List.setIfInBounds_toArray, List.set_cons_succ, List.set_cons_zero]
              go_wp2
              exact ⟨_, rfl, rfl, Grew.refl _⟩
            · rintro v0 v1 v2 v3 v4 v5 v6 v7 _ rfl
              show wpList _ _ _ _ _ _
              simp only [Act.put, List.setIfInBounds_toArray, List.set_cons_succ, List.set_cons_zero]
              have hR := Grew.of_drew hR
              have hcc := (HBLK.out.grew hR).cell kk.fr.toNat
              rw [HXF.out] at hcc
              go_wp2
              exact ⟨_, rfl, rfl, Grew.refl _⟩
            · rintro v0 v1 v2 v3 v4 v5 v6 v7 v8 v9
              show wpList _ _ _ _ _ _
              simp only [Act.put, List.setIfInBounds_toArray, List.set_cons_succ, List.set_cons_zero]
              go_wp2
              exact ⟨_, rfl, rfl, Grew.refl _⟩
            · rintro v0 v1 v2 v3 v4 v5 v6 v7 v8 v9 v10
              show wpList _ _ _ _ _ _
              simp only [Act.put, List.setIfInBounds_toArray, List.set_cons_succ, List.set_cons_zero]
              go_wp2
              exact ⟨_, rfl, rfl, Grew.refl _⟩
            · rintro v0 v1 v2 v3 v4 v5 v6 v7 v8 v9 _ rfl _ rfl
              show wpList _ _ _ _ _ _
              simp only [Act.put, List.setIfInBounds_toArray, List.set_cons_succ, List.set_cons_zero]
              go_wp2
              exact ⟨_, rfl, rfl, Grew.refl _⟩
            · rintro v0 v1 v2 v3 v4 v5 v6 v7 v8 v9 v10 v11 _ rfl
              show wpList _ _ _ _ _ _
              simp only [Act.put, List.setIfInBounds_toArray, List.set_cons_succ, List.set_cons_zero]
              go_wp2
              exact ⟨_, rfl, rfl, Grew.refl _⟩
            · rintro v0 v1 v2 v3 v4 v5 v6 v7 v8 v9 v10 v11 v12 _ rfl
              show wpList _ _ _ _ _ _
              simp only [Act.put, List.setIfInBounds_toArray, List.set_cons_succ, List.set_cons_zero]
              have hR := Grew.of_drew hR
              have hcc := (HC2.out hR)
              go_wp2
              exact ⟨_, rfl, rfl, Grew.refl _⟩
            · rintro v0 v1 v2 v3 v4 v5 v6 v7 v8 _ rfl v10 v11 v12 v13 _ rfl
              show wpList _ _ _ _ _ _
              simp only [Act.put, List.setIfInBounds_toArray, List.set_cons_succ, List.set_cons_zero]
              go_wp2
              exact ⟨_, rfl, rfl, Grew.refl _⟩
            · rintro v0 v1 v2 v3 v4 v5 v6 v7 v8 v9 v10 v11 v12 v13 v14 v15
              show wpList _ _ _ _ _ _
              simp only [Act.put, List.setIfInBounds_toArray, List.set_cons_succ, List.set_cons_zero]
              go_wp2
              exact ⟨_, rfl, rfl, Grew.refl _⟩
            · rintro v0 v1 v2 v3 v4 v5 v6 v7 v8 v9 v10 v11 v12 v13 v14 v15 v16
              show wpList _ _ _ _ _ _
              simp only [Act.put, List.setIfInBounds_toArray, List.set_cons_succ, List.set_cons_zero]
              go_wp2
              exact ⟨_, rfl, rfl, Grew.refl _⟩
            · rintro v0 v1 v2 v3 v4 v5 v6 v7 v8 v9 v10 v11 v12 v13 v14 v15 _ rfl _ rfl
              show wpList _ _ _ _ _ _
              simp only [Act.put, List.setIfInBounds_toArray, List.set_cons_succ, List.set_cons_zero]
              go_wp2
              exact ⟨_, rfl, rfl, Grew.refl _⟩
            · rintro v0 v1 v2 v3 v4 v5 v6 v7 v8 v9 v10 v11 v12 v13 v14 v15 v16 v17 _ rfl
              show wpList _ _ _ _ _ _
              simp only [Act.put, List.setIfInBounds_toArray, List.set_cons_succ, List.set_cons_zero]
              go_wp2
              exact ⟨_, rfl, rfl, Grew.refl _⟩
            · rintro v0 v1 v2 v3 v4 v5 v6 v7 v8 v9 v10 v11 v12 v13 v14 v15 v16 v17 v18 _ rfl
              show wpList _ _ _ _ _ _
              simp only [Act.put, List.setIfInBounds_toArray, List.set_cons_succ, List.set_cons_zero]
              have hR := Grew.of_drew hR
              have hcc := (HC3.out hR)
              go_wp2
              exact ⟨_, rfl, rfl, Grew.refl _⟩
            · rintro v0 v1 v2 v3 v4 v5 v6 v7 v8 v9 v10 v11 v12 v13 v14 _ rfl v16 v17 v18 v19 _ rfl
              show wpList _ _ _ _ _ _
              simp only [Act.put, List.setIfInBounds_toArray, List.set_cons_succ, List.set_cons_zero]
              go_wp2_with (go_at_call 19; refine (rdown_ _ _ _ hp1 hp2 hd1 hd2).mono ?_; rintro e w5 ⟨rfl, rfl⟩)
              exact ⟨_, rfl, rfl, Grew.refl _⟩
            · rintro v0 v1 v2 v3 v4 v5 v6 v7 v8 v9 v10 v11 v12 v13 v14 v15 v16 v17 v18 v19 v20 v21
              show wpList _ _ _ _ _ _
              simp only [Act.put, List.setIfInBounds_toArray, List.set_cons_succ, List.set_cons_zero]
              go_wp2
              exact ⟨_, rfl, rfl, Grew.refl _⟩
            · rintro v0 v1 v2 v3 v4 v5 v6 v7 v8 v9 v10 v11 v12 v13 v14 v15 v16 v17 v18 v19 v20 v21 v22
              show wpList _ _ _ _ _ _
              simp only [Act.put, List.setIfInBounds_toArray, List.set_cons_succ, List.set_cons_zero]
              go_wp2
              exact ⟨_, rfl, rfl, Grew.refl _⟩
            · rintro v0 v1 v2 v3 v4 v5 v6 v7 v8 v9 v10 v11 v12 v13 v14 v15 v16 v17 v18 v19 v20 v21 _ rfl _ rfl
              show wpList _ _ _ _ _ _
              simp only [Act.put, List.setIfInBounds_toArray, List.set_cons_succ, List.set_cons_zero]
              go_wp2
              exact ⟨_, rfl, rfl, Grew.refl _⟩
            · rintro v0 v1 v2 v3 v4 v5 v6 v7 v8 v9 v10 v11 v12 v13 v14 v15 v16 v17 v18 v19 v20 v21 v22 v23 _ rfl
              show wpList _ _ _ _ _ _
              simp only [Act.put, List.setIfInBounds_toArray, List.set_cons_succ, List.set_cons_zero]
              go_wp2
              exact ⟨_, rfl, rfl, Grew.refl _⟩
            · rintro v0 v1 v2 v3 v4 v5 v6 v7 v8 v9 v10 v11 v12 v13 v14 v15 v16 v17 v18 v19 v20 v21 v22 v23 v24 _ rfl
              show wpList _ _ _ _ _ _
              simp only [Act.put, List.setIfInBounds_toArray, List.set_cons_succ, List.set_cons_zero]
              have hR := Grew.of_drew hR
              have hcc := (HC4.out hR)
              go_wp2
              exact ⟨_, rfl, rfl, Grew.refl _⟩
            · rintro v0 v1 v2 v3 v4 v5 v6 v7 v8 v9 v10 v11 v12 v13 v14 v15 v16 v17 v18 v19 v20 _ rfl v22 v23 v24 v25 _ rfl
              show wpList _ _ _ _ _ _
              simp only [Act.put, List.setIfInBounds_toArray, List.set_cons_succ, List.set_cons_zero]
              go_wp2
              exact ⟨_, rfl, rfl, Grew.refl _⟩
            · rintro v0 v1 v2 v3 v4 v5 v6 v7 v8 v9 v10 v11 v12 v13 v14 v15 v16 v17 v18 v19 v20 _ rfl v22 v23 v24 v25 v26 _ rfl
              show wpList _ _ _ _ _ _
              simp only [Act.put, List.setIfInBounds_toArray, List.set_cons_succ, List.set_cons_zero]
              go_wp2_with (go_at_call 30; refine (rclip _ _).mono ?_; rintro e w5 ⟨rfl, rfl⟩)
              exact ⟨_, rfl, rfl, Grew.refl _⟩
          case fin =>
            rintro w' hR _ rfl _ rfl _ rfl _ rfl _ rfl _ rfl _ rfl _ rfl _ rfl _ rfl _ rfl _ rfl _ rfl _ rfl _ rfl _ rfl _ rfl _ rfl _ rfl _ rfl _ rfl _ rfl _ rfl _ rfl _ rfl _ rfl _ rfl _ rfl _ rfl
            show wpList _ _ _ _ _ _
            simp only [Act.put, List.setIfInBounds_toArray, List.set_cons_succ, List.set_cons_zero, List.drop_succ_cons, List.drop_zero]
            have hR := Grew.of_drew hR
            have hcg := (HBLK.out.grew hR).cell q
            have hfg := (HBLK.out.grew hR).frozen q
            rw [HXP.out] at hcg
            have hR' := hR
            have hszz := hR.size
            go_wp2
            have hb7 := (HBLK.out.grew hR').set q (.int .i64 (linkV kk xf))
            rw [set_map] at hb7
            go_roundw
            case rel => exact ⟨j + 1, by omega, by go_num, by rw [HXN.out]; exact hb7, Below.setCell (hbl.trans (hR'.mono (by omega))) (Nat.le_refl _) _⟩
            case measure => simp [intOf]; omega
      · have hjk : j = m1 := by omega
        have HE : Hid ((os.take j).foldl (valStep ls vs) (List.replicate m1 0) = valL ls vs os) := by rw [List.take_of_length_le (by rw [O8.out]; omega)]; unfold valL; rw [HN.out]; rfl
        clear hjk
        rw [HE.out] at hblk
        have HBLK := Lib.hid hblk
        clear hblk
        go_wp2
        go_ret2
        refine ⟨g2.trans' hbl g2.size, some ⟨w2.heap.size, 0, none⟩, m1, m1, ?_, Nat.le_refl _, by rw [HV.out]; rfl⟩
        rw [HV.out]
        have := blk_sl HBLK.out
        rw [valL_length, HN.out] at this
        exact this
  · have HV : Hid (valR ls vs = ([], (ordR n ls).2)) := by unfold valR; rw [HN.out, if_neg hok]; rfl
    have hne : ((ordR n ls).2 != 0) = true := bne_iff_ne.2 hok
    generalize (ordR n ls).2 = er at *
    clear hok s1
    go_wp2
    go_ret2
    exact ⟨g2, none, 0, 0, by rw [HV.out]; exact Sl.nil _ _, Nat.le_refl _, by rw [HV.out]; rfl⟩

end Go.Proofs.Ytnihkdmdbmnniaa
