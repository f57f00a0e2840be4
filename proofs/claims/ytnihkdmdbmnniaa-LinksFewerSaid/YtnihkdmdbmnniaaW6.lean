/- The contract of Values. -/
import Derived.Test.YtnihkdmdbmnniaaPlain2
import Derived.Test.YtnihkdmdbmnniaaRG
set_option linter.unusedSimpArgs false
namespace Go.Proofs.Ytnihkdmdbmnniaa
open Go.RowKit

theorem Try.mixed : Try.prog.follows .mixedOrders = true := by kernel_rfl

theorem own_blk {w : World} {base : Nat} {e : TypeId} {g n : Nat} {xs : List Value} (h : w.ownsRow base e 1 (.slice (some ⟨g, 0, none⟩) n n) n xs) : Blk w g e xs.toArray := by
  rcases h.2 with ⟨h1, _⟩ | ⟨g', cap, cur, hv, _, hh, _, _, hsz, hcur⟩
  · cases h1
  · injection hv with e1 _ e3
    injection e1 with e1
    injection e1 with e1 _ _
    subst e1 e3
    rw [Nat.mul_one] at hsz hcur
    have : cur.toList = xs := by rw [← hcur, List.take_of_length_le (by simp [hsz])]
    unfold Blk
    rw [hh, ← this]

theorem blk_sl {w : World} {g : Nat} {e : TypeId} {xs : List Int} (h : Blk w g e (xs.map (Value.int .i64)).toArray) : Sl w (some ⟨g, 0, none⟩) xs.length xs := by
  refine ⟨rfl, fun _ => ⟨g, 0, rfl, h.lt, fun j hj => ?_⟩⟩
  rw [Nat.zero_add, h.cell]
  simp [List.getD, hj]

def ValV (w : World) (ls : List Lk) (vs : List Int) (e : Ending) (w' : World) : Prop :=
  Grew w w' ∧ ∃ A m c, Sl w' A m (valR ls vs).1 ∧ m ≤ c ∧ e = .returned (.tuple #[.slice A m c, .int .i64 (valR ls vs).2])

theorem set_map (x : List Int) (i : Nat) (y : Int) : ((x.map (Value.int .i64)).toArray.setIfInBounds i (.int .i64 y)) = ((x.set i y).map (Value.int .i64)).toArray := by
  simp [List.map_set]

theorem cellOf (x : List Int) (i : Nat) (h : i < x.length) : ((x.map (Value.int .i64)).toArray)[i]? = some (.int .i64 (x.getD i 0)) := by
  simp [List.getD, h]

set_option maxHeartbeats 2000000 in
theorem values_ (A : Option Addr) (m c : Nat) (ls : List Lk) (B : Option Addr) (n d : Nat) (vs : List Int) (w : World) (hs : SlL w A m ls) (ht : Sl w B n vs) :
    Calls Try.prog 16 #[.slice A m c, .slice B n d] w (ValV w ls vs) := by
  have HS := Lib.hid hs
  have HT := Lib.hid ht
  have HN : Hid (vs.length = n) := ht.1
  clear hs ht
  go_enter Try.func16, Try.ntmps16
  go_wp2_with fail
  refine (order_ _ _ _ _ _ _ HS.out).mono ?_
  rintro e w1 ⟨g1, A1, m1, c1, s1, _, rfl⟩
  by_cases hok : (ordR n ls).2 = 0
  · obtain ⟨o1, o2, o3, o4, o5⟩ := ordR_ok hok
    obtain ⟨o6, o7⟩ := badL_spec o4
    rw [Int.toNat_natCast] at o5
    obtain ⟨o8, o9⟩ := ordK_mem ls n n _ o5
    have HV : Hid (valR ls vs = (valL ls vs (ordR n ls).1, 0)) := by unfold valR; rw [HN.out, if_pos hok]; rfl
    rw [hok]
    have S1 := Lib.hid s1
    have hm1 : m1 = n := by have := s1.1; omega
    obtain ⟨os, hos⟩ : ∃ os, os = (ordR n ls).1 := ⟨_, rfl⟩
    rw [← hos] at S1 HV o8 o9
    have O7 := Lib.hid o7
    have O9 := Lib.hid o9
    have O8 := Lib.hid o8
    subst hm1
    have hml : m ≤ 256 := by rw [← HS.out.1]; exact o3
    have hnl : m1 ≤ 256 := by omega
    clear s1 hos hok o1 o2 o3 o4 o5 o6 o7 o8 o9
    obtain ⟨i0, hi, hz0, hz1, hz2⟩ := info_parts Try.info3
    go_wp2_with fail
    refine (sources_ _ _ _ _ _ (HS.out.grew g1) hml).mono ?_
    rintro e w2 ⟨r, rfl, him, hr, g2⟩
    have HIM := Lib.hid him
    clear him
    go_wp2_with (at_make; refine wpList_make_full _ rfl _ _ 27 rfl w2.heap.size 3 i0 (.int .i64 0) 1 Try.underlying27 hi hz0 hz1 .i64 .i64 m1 m1 m1 rfl rfl rfl rfl (by rw [hz2]; omega) (by unfold maxLen; omega) (Nat.le_refl _) ?_; intro w3 hown3 hgrow3)
    have hb0 : Blk w3 w2.heap.size 3 ((List.replicate m1 (0 : Int)).map (Value.int .i64)).toArray := by
      have := own_blk hown3
      rw [Nat.mul_one, show (Value.int IntKind.i64 0).cells = #[Value.int IntKind.i64 0] from rfl, toList_madeCells_one] at this
      simpa using this
    have hbl0 : Below w2.heap.size w2 w3 := (Below.refl _ _).grown hgrow3 (Nat.le_refl _) (fun k e => by cases e)
    clear hown3 hgrow3
    go_loopw [33] (fun i wr => ∃ j : Nat, j ≤ m1 ∧ i = .int .i64 j ∧ Blk wr w2.heap.size 3 (((os.take j).foldl (valStep ls vs) (List.replicate m1 0)).map (Value.int .i64)).toArray ∧ Below w2.heap.size w2 wr) (fun i _ => m1 - (intOf i).toNat)
    case atStart => exact ⟨0, Nat.zero_le _, rfl, hb0, hbl0⟩
    case round =>
      obtain ⟨j, hj, rfl, hblk, hbl⟩ := hrel
      clear hb0 hbl0
      by_cases hlt : j < m1
      · have hjo : j < os.length := by rw [O8.out]; exact hlt
        obtain ⟨q, hq, hpq⟩ := O9.out (os.getD j 0) (by simp [List.getD, hjo])
        have hge : Grew w2 wr := hbl
        obtain ⟨b, off, hA1, hb, hcell⟩ := (S1.out.grew (g2.trans hge)).2 (by omega)
        have hck := hcell j hlt
        rw [hpq] at hck
        rw [hA1]
        clear hcell hA1
        have e1 := run_look (P := Try.prog) (HIM.out.grew hge) 42 3 34 Try.underlying42 Try.underlying3 Lk.z.v zero34 q true
        rw [mlook_mapOf] at e1
        have HX : Hid ((os.take (j + 1)).foldl (valStep ls vs) (List.replicate m1 0) = valStep ls vs ((os.take j).foldl (valStep ls vs) (List.replicate m1 0)) q) := by
          rw [take_snoc os j hjo, List.foldl_append, hpq]; rfl
        have hlen : ((os.take j).foldl (valStep ls vs) (List.replicate m1 0)).length = m1 := by rw [foldl_valStep_length]; simp
        have hsm := smp_valK ls vs os j
        rw [HN.out] at hsm
        have HSM := Lib.hid hsm
        have HLEN := Lib.hid hlen
        have hgs := hblk.lt
        clear hsm hlen hjo hpq
        generalize (os.take j).foldl (valStep ls vs) (List.replicate m1 0) = x at *
        have HBLK := Lib.hid hblk
        clear hblk
        cases hsrc : src ls q with
        | none =>
          rw [hsrc] at e1
          unfold Lk.z Lk.v at e1
          dsimp only [Option.map_none, Option.getD_none, Option.isSome_none, if_true] at e1
          have HXN : Hid ((os.take (j + 1)).foldl (valStep ls vs) (List.replicate m1 0) = x.set q (clip (vs.getD q 0))) := by rw [HX.out]; unfold valStep; rw [hsrc]; rfl
          clear hsrc
          obtain ⟨b2, off2, hB, hb2, hcell2⟩ := (HT.out.grew (g1.trans (g2.trans hge))).2 (by omega)
          have hcv := (((Grew.refl wr).alloc (.cells #[.int .i64 0, .int .i64 0, .int .i64 0, .int .i64 0, .int .i64 0] 34)).cell hb2).trans (hcell2 q hq)
          rw [hB]
          clear hcell2 hB
          have hcg := (HBLK.out.alloc (.cells #[.int .i64 0, .int .i64 0, .int .i64 0, .int .i64 0, .int .i64 0] 34)).cell q
          rw [cellOf x q (by rw [HLEN.out]; exact hq)] at hcg
          have hfg := (HBLK.out.alloc (.cells #[.int .i64 0, .int .i64 0, .int .i64 0, .int .i64 0, .int .i64 0] 34)).frozen q
          generalize vs.getD q 0 = y at *
          go_wp2_with (go_at_call 18; refine (fclip _ _).mono ?_; rintro e w5 ⟨rfl, rfl⟩)
          have hb7 := (HBLK.out.set q (.int .i64 (clip y))).alloc (.cells #[.int .i64 0, .int .i64 0, .int .i64 0, .int .i64 0, .int .i64 0] 34)
          rw [set_map] at hb7
          have hbb : Below w2.heap.size w2 (wr.setCell ⟨w2.heap.size, q, none⟩ (.int .i64 (clip y))) := Below.setCell hbl (Nat.le_refl _) _
          go_roundw
          case rel => exact ⟨j + 1, by omega, by go_num, by rw [HXN.out]; exact hb7, hbb.alloc (by rw [setCell_size]; omega) _⟩
          case measure => simp [intOf]; omega
        | some kk =>
          rw [hsrc] at e1
          unfold Lk.z Lk.v at e1
          dsimp only [Option.map_some, Option.getD_some, Option.isSome_some, if_true] at e1
          obtain ⟨hkm, hkt⟩ := src_mem hsrc
          obtain ⟨⟨f0, f1⟩, _, _, hnum, ⟨hd1, hd2⟩, ha⟩ := okL_spec (O7.out kk hkm)
          have hfr : kk.fr.toNat < m1 := by omega
          have HXN : Hid ((os.take (j + 1)).foldl (valStep ls vs) (List.replicate m1 0) = x.set q (linkV kk (x.getD kk.fr.toNat 0))) := by rw [HX.out]; unfold valStep; rw [hsrc]; rfl
          have hxf := HSM.out kk.fr.toNat
          have HXF := Lib.hid (cellOf x kk.fr.toNat (by rw [HLEN.out]; exact hfr))
          have HXP := Lib.hid (cellOf x q (by rw [HLEN.out]; exact hq))
          generalize x.getD kk.fr.toNat 0 = xf at *
          obtain ⟨hp1, hp2⟩ := mul_bd xf kk.num hxf hnum
          obtain ⟨hq1, hq2⟩ := div_bd (xf * kk.num) kk.den hp1 hp2 hd1
          have HBG := Lib.hid (HBLK.out.alloc (.cells #[.int .i64 kk.fr, .int .i64 kk.to, .int .i64 kk.num, .int .i64 kk.den, .int .i64 kk.add] 34))
          have HBX := Lib.hid (Blk.new wr 34 #[.int .i64 kk.fr, .int .i64 kk.to, .int .i64 kk.num, .int .i64 kk.den, .int .i64 kk.add])
          clear hsrc hkm hkt hnum hxf
          go_wp2
          refine RG.wp_region_rg 17 (fun a b => Grew a b) [fun u _ => u = .slice (some ⟨w2.heap.size, 0, none⟩) m1 m1, fun u _ => u = .int .i64 q, fun u _ => u = .slice (some ⟨w2.heap.size, 0, none⟩) m1 m1, fun u _ => u = .pointer (some ⟨wr.heap.size, 0, none⟩), fun u _ => u = .int .i64 kk.fr, fun u _ => u = .pointer (some ⟨w2.heap.size, kk.fr.toNat, none⟩), fun u _ => u = .int .i64 xf, fun u _ => u = .pointer (some ⟨wr.heap.size, 2, none⟩), fun u _ => u = .int .i64 kk.num, fun u _ => u = .int .i64 (xf * kk.num), fun u _ => u = .pointer (some ⟨wr.heap.size, 3, none⟩), fun u _ => u = .int .i64 kk.den, fun u _ => u = .int .i64 (xf * kk.num / kk.den), fun u _ => u = .pointer (some ⟨wr.heap.size, 4, none⟩), fun u _ => u = .int .i64 kk.add, fun u _ => u = .int .i64 (xf * kk.num / kk.den + kk.add), fun u _ => u = .int .i64 (clip (xf * kk.num / kk.den + kk.add))] Try.mixed (by kernel_rfl) rfl (Grew.refl _) (fun _ _ _ a b => a.trans b) ?st ?ob ?fin
          case st => exact ⟨fun _ _ _ _ h _ => h, fun _ _ _ _ h _ => h, fun _ _ _ _ h _ => h, fun _ _ _ _ h _ => h, fun _ _ _ _ h _ => h, fun _ _ _ _ h _ => h, fun _ _ _ _ h _ => h, fun _ _ _ _ h _ => h, fun _ _ _ _ h _ => h, fun _ _ _ _ h _ => h, fun _ _ _ _ h _ => h, fun _ _ _ _ h _ => h, fun _ _ _ _ h _ => h, fun _ _ _ _ h _ => h, fun _ _ _ _ h _ => h, fun _ _ _ _ h _ => h, fun _ _ _ _ h _ => h, trivial⟩
          case ob =>
            refine ⟨fun w' hR => ?_, fun w' hR => ?_, fun w' hR => ?_, fun w' hR => ?_, fun w' hR => ?_, fun w' hR => ?_, fun w' hR => ?_, fun w' hR => ?_, fun w' hR => ?_, fun w' hR => ?_, fun w' hR => ?_, fun w' hR => ?_, fun w' hR => ?_, fun w' hR => ?_, fun w' hR => ?_, fun w' hR => ?_, fun w' hR => ?_, trivial⟩
            · show wpList _ _ _ _ _ _
              go_wp2
              exact ⟨_, rfl, rfl, Grew.refl _⟩
            · rintro v0
              show wpList _ _ _ _ _ _
              simp only [Act.put, List.setIfInBounds_toArray, List.set_cons_succ, List.set_cons_zero]
              go_wp2
              exact ⟨_, rfl, rfl, Grew.refl _⟩
            · rintro v0 v1
              show wpList _ _ _ _ _ _
              simp only [Act.put, List.setIfInBounds_toArray, List.set_cons_succ, List.set_cons_zero]
              go_wp2
              exact ⟨_, rfl, rfl, Grew.refl _⟩
            · rintro v0 v1 v2
              show wpList _ _ _ _ _ _
              simp only [Act.put, List.setIfInBounds_toArray, List.set_cons_succ, List.set_cons_zero]
              go_wp2
              exact ⟨_, rfl, rfl, Grew.refl _⟩
            · rintro v0 v1 v2 _ rfl
              show wpList _ _ _ _ _ _
              simp only [Act.put, List.setIfInBounds_toArray, List.set_cons_succ, List.set_cons_zero]
              have hR := Grew.of_drew hR
              have hcc := (HBX.out.grew hR).cell 0
              go_wp2
              exact ⟨_, rfl, rfl, Grew.refl _⟩
            · rintro v0 v1 _ rfl v3 _ rfl
              show wpList _ _ _ _ _ _
              simp only [Act.put, List.setIfInBounds_toArray, List.set_cons_succ, List.set_cons_zero]
              go_wp2
              exact ⟨_, rfl, rfl, Grew.refl _⟩
            · rintro v0 v1 v2 v3 v4 _ rfl
              show wpList _ _ _ _ _ _
              simp only [Act.put, List.setIfInBounds_toArray, List.set_cons_succ, List.set_cons_zero]
              have hR := Grew.of_drew hR
              have hcc := (HBG.out.grew hR).cell kk.fr.toNat
              rw [HXF.out] at hcc
              go_wp2
              exact ⟨_, rfl, rfl, Grew.refl _⟩
            · rintro v0 v1 v2 v3 v4 v5 v6
              show wpList _ _ _ _ _ _
              simp only [Act.put, List.setIfInBounds_toArray, List.set_cons_succ, List.set_cons_zero]
              go_wp2
              exact ⟨_, rfl, rfl, Grew.refl _⟩
            · rintro v0 v1 v2 v3 v4 v5 v6 _ rfl
              show wpList _ _ _ _ _ _
              simp only [Act.put, List.setIfInBounds_toArray, List.set_cons_succ, List.set_cons_zero]
              have hR := Grew.of_drew hR
              have hcc := (HBX.out.grew hR).cell 2
              go_wp2
              exact ⟨_, rfl, rfl, Grew.refl _⟩
            · rintro v0 v1 v2 v3 v4 v5 _ rfl v7 _ rfl
              show wpList _ _ _ _ _ _
              simp only [Act.put, List.setIfInBounds_toArray, List.set_cons_succ, List.set_cons_zero]
              go_wp2
              exact ⟨_, rfl, rfl, Grew.refl _⟩
            · rintro v0 v1 v2 v3 v4 v5 v6 v7 v8 v9
              show wpList _ _ _ _ _ _
              simp only [Act.put, List.setIfInBounds_toArray, List.set_cons_succ, List.set_cons_zero]
              go_wp2
              exact ⟨_, rfl, rfl, Grew.refl _⟩
            · rintro v0 v1 v2 v3 v4 v5 v6 v7 v8 v9 _ rfl
              show wpList _ _ _ _ _ _
              simp only [Act.put, List.setIfInBounds_toArray, List.set_cons_succ, List.set_cons_zero]
              have hR := Grew.of_drew hR
              have hcc := (HBX.out.grew hR).cell 3
              go_wp2
              exact ⟨_, rfl, rfl, Grew.refl _⟩
            · rintro v0 v1 v2 v3 v4 v5 v6 v7 v8 _ rfl v10 _ rfl
              show wpList _ _ _ _ _ _
              simp only [Act.put, List.setIfInBounds_toArray, List.set_cons_succ, List.set_cons_zero]
              go_wp2_with (go_at_call 28; refine (down_ _ _ _ hp1 hp2 hd1 hd2).mono ?_; rintro e w5 ⟨rfl, rfl⟩)
              exact ⟨_, rfl, rfl, Grew.refl _⟩
            · rintro v0 v1 v2 v3 v4 v5 v6 v7 v8 v9 v10 v11 v12
              show wpList _ _ _ _ _ _
              simp only [Act.put, List.setIfInBounds_toArray, List.set_cons_succ, List.set_cons_zero]
              go_wp2
              exact ⟨_, rfl, rfl, Grew.refl _⟩
            · rintro v0 v1 v2 v3 v4 v5 v6 v7 v8 v9 v10 v11 v12 _ rfl
              show wpList _ _ _ _ _ _
              simp only [Act.put, List.setIfInBounds_toArray, List.set_cons_succ, List.set_cons_zero]
              have hR := Grew.of_drew hR
              have hcc := (HBX.out.grew hR).cell 4
              go_wp2
              exact ⟨_, rfl, rfl, Grew.refl _⟩
            · rintro v0 v1 v2 v3 v4 v5 v6 v7 v8 v9 v10 v11 _ rfl v13 _ rfl
              show wpList _ _ _ _ _ _
              simp only [Act.put, List.setIfInBounds_toArray, List.set_cons_succ, List.set_cons_zero]
              go_wp2
              exact ⟨_, rfl, rfl, Grew.refl _⟩
            · rintro v0 v1 v2 v3 v4 v5 v6 v7 v8 v9 v10 v11 _ rfl v13 v14 _ rfl
              show wpList _ _ _ _ _ _
              simp only [Act.put, List.setIfInBounds_toArray, List.set_cons_succ, List.set_cons_zero]
              go_wp2_with (go_at_call 18; refine (fclip _ _).mono ?_; rintro e w5 ⟨rfl, rfl⟩)
              exact ⟨_, rfl, rfl, Grew.refl _⟩
          case fin =>
            rintro w' hR _ rfl _ rfl _ rfl _ rfl _ rfl _ rfl _ rfl _ rfl _ rfl _ rfl _ rfl _ rfl _ rfl _ rfl _ rfl _ rfl _ rfl
            show wpList _ _ _ _ _ _
            simp only [Act.put, List.setIfInBounds_toArray, List.set_cons_succ, List.set_cons_zero, List.drop_succ_cons, List.drop_zero]
            have hR := Grew.of_drew hR
            have hcg := (HBG.out.grew hR).cell q
            have hfg := (HBG.out.grew hR).frozen q
            rw [HXP.out] at hcg
            have hR' := hR
            have hszz := hR.size
            go_wp2
            have hb7 := (HBG.out.grew hR').set q (.int .i64 (linkV kk xf))
            rw [set_map] at hb7
            go_roundw
            case rel => exact ⟨j + 1, by omega, by go_num, by rw [HXN.out]; exact hb7, Below.setCell (hbl.trans (((Below.refl _ wr).alloc (by omega) _).trans (hR'.mono (by simp; omega)))) (Nat.le_refl _) _⟩
            case measure => simp [intOf]; omega
      · have hjk : j = m1 := by omega
        have HE : Hid ((os.take j).foldl (valStep ls vs) (List.replicate m1 0) = valL ls vs os) := by rw [List.take_of_length_le (by rw [O8.out]; omega)]; unfold valL; rw [HN.out]; rfl
        clear hjk
        rw [HE.out] at hblk
        have HBLK := Lib.hid hblk
        clear hblk
        go_wp2
        go_ret2
        refine ⟨(g1.trans g2).trans' hbl (g1.trans g2).size, some ⟨w2.heap.size, 0, none⟩, m1, m1, ?_, Nat.le_refl _, by rw [HV.out]; rfl⟩
        rw [HV.out]
        have := blk_sl HBLK.out
        rw [valL_length, HN.out] at this
        exact this
  · have HV : Hid (valR ls vs = ([], (ordR n ls).2)) := by unfold valR; rw [HN.out, if_neg hok]; rfl
    have hne : ((ordR n ls).2 != 0) = true := bne_iff_ne.2 hok
    generalize (ordR n ls).2 = er at *
    clear hok s1
    go_wp2
    go_ret2
    exact ⟨g1, none, 0, 0, by rw [HV.out]; exact Sl.nil _ _, Nat.le_refl _, by rw [HV.out]; rfl⟩

end Go.Proofs.Ytnihkdmdbmnniaa
