/- The walk of LinksOrder. -/
import Derived.Test.YtnihkdmdbmnniaaW8
import Derived.Test.YtnihkdmdbmnniaaPlain3
set_option linter.unusedSimpArgs false
namespace Go.Proofs.Ytnihkdmdbmnniaa
open Go.RowKit

set_option maxRecDepth 100000 in
set_option maxHeartbeats 1000000 in
theorem linksOrder_walk (n : Int) (A : Option Addr) (m c : Nat) (ls : List Lk) (w : World) (hs : SlL w A m ls) :
    Calls Try.prog 6 #[.int .i64 n, .slice A m c] w fun e w' => e = .returned (.bool true) ∧ Grew w w' := by
  have HS := Lib.hid hs
  clear hs
  go_enter Try.func6, Try.ntmps6
  go_wp2_with fail
  refine (sane _).mono ?_
  rintro e w1 ⟨rfl, g1⟩
  go_wp2_with fail
  refine (order_ _ _ _ _ _ _ (HS.out.grew g1)).mono ?_
  rintro e w2 ⟨g2, A2, m2, c2, s2, hc2, rfl⟩
  by_cases hok : (ordR n ls).2 = 0
  · have ⟨o1, o2, o3, o4, o5⟩ := ordR_ok hok
    have ⟨b1, b2⟩ := badL_spec o4
    have ⟨p1, p2, p3, p4, p5⟩ := ord_before o5 ((mapOf_len ls).2.1 b1)
    rw [hok]
    have hml : m ≤ 256 := by rw [← HS.out.1]; exact o3
    obtain ⟨nn, hnn⟩ : ∃ nn : Nat, n = nn := ⟨n.toNat, by omega⟩
    subst hnn
    rw [Int.toNat_natCast] at p2 p3 p4 p5
    have hm2 : m2 = nn := by have := s2.1; omega
    subst hm2
    generalize hos : (ordR m2 ls).1 = os at *
    have S2 := Lib.hid s2
    have HB := Lib.hid b2
    have HP1 := Lib.hid p1
    have HP2 := Lib.hid p2
    have HP3 := Lib.hid p3
    have HP5 := Lib.hid p5
    have G := Lib.hid (g1.trans g2)
    have HSL := Lib.hid (HS.out.grew (g1.trans g2))
    clear hok o1 o3 o4 o5 b1 b2 p1 p2 p3 p4 p5 s2 hos g1 g2 HS
    obtain ⟨i0, hi, hz0, hz1, hz2⟩ := info_parts Try.info3
    go_wp2_with (at_make; refine wpList_make_full _ rfl _ _ 27 rfl w2.heap.size 3 i0 (.int .i64 0) 1 Try.underlying27 hi hz0 hz1 .i64 .i64 m2 m2 m2 rfl rfl rfl rfl (by rw [hz2]; omega) (by unfold maxLen; omega) (Nat.le_refl _) ?_; intro w3 hown3 hgrow3)
    have hb0 : Blk w3 w2.heap.size 3 ((atL [] m2).map (Value.int .i64)).toArray := by
      have := own_blk hown3
      rw [Nat.mul_one, show (Value.int IntKind.i64 0).cells = #[Value.int IntKind.i64 0] from rfl, toList_madeCells_one] at this
      rw [atL_nil]
      simpa using this
    have hbl0 : Below w2.heap.size w2 w3 := (Below.refl _ _).grown hgrow3 (Nat.le_refl _) (fun k e => by cases e)
    clear hown3 hgrow3
    go_loopw [8] (fun i wr => ∃ j : Nat, j ≤ m2 ∧ i = .int .i64 j ∧ Blk wr w2.heap.size 3 ((atL (os.take j) m2).map (Value.int .i64)).toArray ∧ Below w2.heap.size w2 wr) (fun i _ => m2 - (intOf i).toNat)
    case atStart => exact ⟨0, Nat.zero_le _, rfl, hb0, hbl0⟩
    case round =>
      obtain ⟨j, hj, rfl, hblk, hbl⟩ := hrel
      clear hb0 hbl0
      by_cases hlt : j < m2
      · have hjo : j < os.length := by rw [HP2.out]; exact hlt
        obtain ⟨q, hq, hpq⟩ := HP3.out (os.getD j 0) (by simp [List.getD, hjo])
        have hge : Grew w2 wr := hbl
        obtain ⟨b, off, hA1, hb, hcell⟩ := (S2.out.grew hge).2 (by omega)
        have hck := hcell j hlt
        rw [hpq] at hck
        rw [hA1]
        have HT := Lib.hid (take_snoc os j hjo)
        rw [hpq] at HT
        have HNM : Hid ((q : Int) ∉ os.take j) := by
          have h1 := HP1.out
          have h2 : (os.take (j + 1)).Nodup := h1.sublist (List.take_sublist _ _)
          rw [HT.out, List.nodup_append] at h2
          exact fun h => h2.2.2 _ h _ (by simp) rfl
        have hcg := hblk.cell q
        rw [cellOf _ q (by rw [atL_length]; exact hq), atL_getD _ _ _ hq, show pos1 (os.take j) q = 0 from if_neg HNM.out] at hcg
        have hfg := hblk.frozen q
        have hbs := hblk.set q (.int .i64 ((j : Int) + 1))
        rw [set_map] at hbs
        have HTL : Hid ((os.take j).length = j) := by show (os.take j).length = j; rw [List.length_take, HP2.out]; omega
        have e2 := atL_snoc (os.take j) m2 q HNM.out
        rw [HTL.out, ← HT.out] at e2
        rw [← e2] at hbs
        have HBS := Lib.hid hbs
        have hgs := hblk.lt
        clear hcell hA1 hjo hpq hblk hbs e2
        go_wp2
        go_roundw
        case rel => exact ⟨j + 1, by omega, by go_num, HBS.out, Below.setCell hbl (Nat.le_refl _) _⟩
        case measure => simp [intOf]; omega
      · have HE : Hid (os.take j = os) := List.take_of_length_le (by rw [HP2.out]; omega)
        rw [HE.out] at hblk
        have HBK := Lib.hid hblk
        clear hblk
        go_wp2
        rename World => wq
        have HBL : Hid (Grew w2 wq) := hbl
        clear hbl HE
        go_loopw [9] (fun i wr => ∃ k : Nat, k ≤ m ∧ i = .int .i64 k ∧ Grew wq wr) (fun i _ => m - (intOf i).toNat)
        case atStart => exact ⟨0, Nat.zero_le _, rfl, Grew.refl _⟩
        case round =>
          obtain ⟨k, hk, rfl, hg2⟩ := hrel
          by_cases hlt2 : k < m
          · have hkl : k < ls.length := by rw [HSL.out.1]; exact hlt2
            have hxm : ls.getD k Lk.z ∈ ls := by simp [List.getD, hkl]
            obtain ⟨⟨f0, f1⟩, ⟨t0, t1⟩, _, _, _, _⟩ := okL_spec (HB.out _ hxm)
            have hpp := HP5.out _ hxm t0 (by omega)
            have hge : Grew w2 wr := HBL.out.trans hg2
            obtain ⟨b, off, hA1, hb, hcell⟩ := (HSL.out.grew hge).2 (by omega)
            obtain ⟨c0, c1, _, _, _⟩ := hcell k hlt2
            rw [hA1]
            have hgl : w2.heap.size < wr.heap.size := (HBK.out.grew hg2).lt
            have HBR := Lib.hid (HBK.out.grew hg2)
            generalize ls.getD k Lk.z = x at *
            have HC0 : Hid (∀ {w' : World}, Grew wr w' → w'.cell? ⟨b, off + k * 5, none⟩ = some (.int .i64 x.fr)) := fun h => by rw [h.cell hb]; exact c0
            have HC1 : Hid (∀ {w' : World}, Grew wr w' → w'.cell? ⟨b, off + k * 5 + 1, none⟩ = some (.int .i64 x.to)) := fun h => by rw [h.cell hb]; exact c1
            have HF : Hid (∀ {w' : World}, Grew wr w' → w'.cell? ⟨w2.heap.size, x.fr.toNat, none⟩ = some (.int .i64 (pos1 os x.fr))) := fun h => by
              rw [(HBR.out.grew h).cell, cellOf _ _ (by rw [atL_length]; omega), atL_getD _ _ _ (by omega), Int.toNat_of_nonneg f0]
            have HT : Hid (∀ {w' : World}, Grew wr w' → w'.cell? ⟨w2.heap.size, x.to.toNat, none⟩ = some (.int .i64 (pos1 os x.to))) := fun h => by
              rw [(HBR.out.grew h).cell, cellOf _ _ (by rw [atL_length]; omega), atL_getD _ _ _ (by omega), Int.toNat_of_nonneg t0]
            clear c0 c1 hcell hA1 hkl hxm HBR
            go_wp2_with fail
            refine RG.wp_region_rg 51 (fun a b => Grew a b) [fun u _ => u = .slice (some ⟨b, off, none⟩) m c, fun u _ => u = .int .i64 k, fun u _ => u = .pointer (some ⟨b, off + k * 5, none⟩), fun u _ => u = .pointer (some ⟨b, off + k * 5, none⟩), fun u _ => u = .int .i64 x.fr, fun u _ => u = .bool false, fun u _ => u = .bool false, fun u _ => u = .slice (some ⟨b, off, none⟩) m c, fun u _ => u = .int .i64 k, fun u _ => u = .pointer (some ⟨b, off + k * 5, none⟩), fun u _ => u = .pointer (some ⟨b, off + k * 5, none⟩), fun u _ => u = .int .i64 x.fr, fun u _ => u = .int .i64 m2, fun u _ => u = .bool false, fun u _ => u = .bool false, fun u _ => u = .bool false, fun u _ => u = .slice (some ⟨b, off, none⟩) m c, fun u _ => u = .int .i64 k, fun u _ => u = .pointer (some ⟨b, off + k * 5, none⟩), fun u _ => u = .pointer (some ⟨b, off + k * 5 + 1, none⟩), fun u _ => u = .int .i64 x.to, fun u _ => u = .bool false, fun u _ => u = .bool false, fun u _ => u = .bool false, fun u _ => u = .slice (some ⟨b, off, none⟩) m c, fun u _ => u = .int .i64 k, fun u _ => u = .pointer (some ⟨b, off + k * 5, none⟩), fun u _ => u = .pointer (some ⟨b, off + k * 5 + 1, none⟩), fun u _ => u = .int .i64 x.to, fun u _ => u = .int .i64 m2, fun u _ => u = .bool false, fun u _ => u = .bool false, fun u _ => u = .bool false, fun u _ => u = .slice (some ⟨w2.heap.size, 0, none⟩) m2 m2, fun u _ => u = .slice (some ⟨b, off, none⟩) m c, fun u _ => u = .int .i64 k, fun u _ => u = .pointer (some ⟨b, off + k * 5, none⟩), fun u _ => u = .pointer (some ⟨b, off + k * 5, none⟩), fun u _ => u = .int .i64 x.fr, fun u _ => u = .pointer (some ⟨w2.heap.size, (x.fr).toNat, none⟩), fun u _ => u = .int .i64 (pos1 os x.fr), fun u _ => u = .slice (some ⟨w2.heap.size, 0, none⟩) m2 m2, fun u _ => u = .slice (some ⟨b, off, none⟩) m c, fun u _ => u = .int .i64 k, fun u _ => u = .pointer (some ⟨b, off + k * 5, none⟩), fun u _ => u = .pointer (some ⟨b, off + k * 5 + 1, none⟩), fun u _ => u = .int .i64 x.to, fun u _ => u = .pointer (some ⟨w2.heap.size, (x.to).toNat, none⟩), fun u _ => u = .int .i64 (pos1 os x.to), fun u _ => u = .bool false, fun u _ => u = .bool false] Try.mixed (by kernel_rfl) rfl (Grew.refl _) (fun _ _ _ a b => a.trans b) ?st ?ob ?fin
            case st => exact ⟨fun _ _ _ _ h _ => h, fun _ _ _ _ h _ => h, fun _ _ _ _ h _ => h, fun _ _ _ _ h _ => h, fun _ _ _ _ h _ => h, fun _ _ _ _ h _ => h, fun _ _ _ _ h _ => h, fun _ _ _ _ h _ => h, fun _ _ _ _ h _ => h, fun _ _ _ _ h _ => h, fun _ _ _ _ h _ => h, fun _ _ _ _ h _ => h, fun _ _ _ _ h _ => h, fun _ _ _ _ h _ => h, fun _ _ _ _ h _ => h, fun _ _ _ _ h _ => h, fun _ _ _ _ h _ => h, fun _ _ _ _ h _ => h, fun _ _ _ _ h _ => h, fun _ _ _ _ h _ => h, fun _ _ _ _ h _ => h, fun _ _ _ _ h _ => h, fun _ _ _ _ h _ => h, fun _ _ _ _ h _ => h, fun _ _ _ _ h _ => h, fun _ _ _ _ h _ => h, fun _ _ _ _ h _ => h, fun _ _ _ _ h _ => h, fun _ _ _ _ h _ => h, fun _ _ _ _ h _ => h, fun _ _ _ _ h _ => h, fun _ _ _ _ h _ => h, fun _ _ _ _ h _ => h, fun _ _ _ _ h _ => h, fun _ _ _ _ h _ => h, fun _ _ _ _ h _ => h, fun _ _ _ _ h _ => h, fun _ _ _ _ h _ => h, fun _ _ _ _ h _ => h, fun _ _ _ _ h _ => h, fun _ _ _ _ h _ => h, fun _ _ _ _ h _ => h, fun _ _ _ _ h _ => h, fun _ _ _ _ h _ => h, fun _ _ _ _ h _ => h, fun _ _ _ _ h _ => h, fun _ _ _ _ h _ => h, fun _ _ _ _ h _ => h, fun _ _ _ _ h _ => h, fun _ _ _ _ h _ => h, fun _ _ _ _ h _ => h, trivial⟩
            case ob =>
              refine ⟨fun w' hR => ?_, fun w' hR => ?_, fun w' hR => ?_, fun w' hR => ?_, fun w' hR => ?_, fun w' hR => ?_, fun w' hR => ?_, fun w' hR => ?_, fun w' hR => ?_, fun w' hR => ?_, fun w' hR => ?_, fun w' hR => ?_, fun w' hR => ?_, fun w' hR => ?_, fun w' hR => ?_, fun w' hR => ?_, fun w' hR => ?_, fun w' hR => ?_, fun w' hR => ?_, fun w' hR => ?_, fun w' hR => ?_, fun w' hR => ?_, fun w' hR => ?_, fun w' hR => ?_, fun w' hR => ?_, fun w' hR => ?_, fun w' hR => ?_, fun w' hR => ?_, fun w' hR => ?_, fun w' hR => ?_, fun w' hR => ?_, fun w' hR => ?_, fun w' hR => ?_, fun w' hR => ?_, fun w' hR => ?_, fun w' hR => ?_, fun w' hR => ?_, fun w' hR => ?_, fun w' hR => ?_, fun w' hR => ?_, fun w' hR => ?_, fun w' hR => ?_, fun w' hR => ?_, fun w' hR => ?_, fun w' hR => ?_, fun w' hR => ?_, fun w' hR => ?_, fun w' hR => ?_, fun w' hR => ?_, fun w' hR => ?_, fun w' hR => ?_, trivial⟩
              · show wpList _ _ _ _ _ _
                go_wp2
                exact ⟨_, rfl, rfl, Grew.refl _⟩
              · rintro v0
                show wpList _ _ _ _ _ _
                simp only [Act.put, List.setIfInBounds_toArray, List.set_cons_succ, List.set_cons_zero]
                go_wp2
                exact ⟨_, rfl, rfl, Grew.refl _⟩
              · rintro _ rfl _ rfl
                show wpList _ _ _ _ _ _
                simp only [Act.put, List.setIfInBounds_toArray, List.set_cons_succ, List.set_cons_zero]
                go_wp2
                exact ⟨_, rfl, rfl, Grew.refl _⟩
              · rintro v0 v1 _ rfl
                show wpList _ _ _ _ _ _
                simp only [Act.put, List.setIfInBounds_toArray, List.set_cons_succ, List.set_cons_zero]
                go_wp2
                exact ⟨_, rfl, rfl, Grew.refl _⟩
              · rintro v0 v1 v2 _ rfl
                show wpList _ _ _ _ _ _
                simp only [Act.put, List.setIfInBounds_toArray, List.set_cons_succ, List.set_cons_zero]
                have hR := Grew.of_drew hR
                have hcc := (HC0.out hR)
                go_wp2
                exact ⟨_, rfl, rfl, Grew.refl _⟩
              · rintro v0 v1 v2 v3 _ rfl
                show wpList _ _ _ _ _ _
                simp only [Act.put, List.setIfInBounds_toArray, List.set_cons_succ, List.set_cons_zero]
                go_wp2
                exact ⟨_, rfl, congrArg Value.bool (decide_eq_false (by omega)), Grew.refl _⟩
              · rintro v0 v1 v2 v3 v4 _ rfl
                show wpList _ _ _ _ _ _
                simp only [Act.put, List.setIfInBounds_toArray, List.set_cons_succ, List.set_cons_zero]
                go_wp2
                exact ⟨_, rfl, rfl, Grew.refl _⟩
              · rintro v0 v1 v2 v3 v4 v5 _ rfl
                show wpList _ _ _ _ _ _
                simp only [Act.put, List.setIfInBounds_toArray, List.set_cons_succ, List.set_cons_zero]
                go_wp2
                exact ⟨_, rfl, rfl, Grew.refl _⟩
              · rintro v0 v1 v2 v3 v4 v5 _ rfl v7
                show wpList _ _ _ _ _ _
                simp only [Act.put, List.setIfInBounds_toArray, List.set_cons_succ, List.set_cons_zero]
                go_wp2
                exact ⟨_, rfl, rfl, Grew.refl _⟩
              · rintro v0 v1 v2 v3 v4 v5 _ rfl _ rfl _ rfl
                show wpList _ _ _ _ _ _
                simp only [Act.put, List.setIfInBounds_toArray, List.set_cons_succ, List.set_cons_zero]
                go_wp2
                exact ⟨_, rfl, rfl, Grew.refl _⟩
              · rintro v0 v1 v2 v3 v4 v5 _ rfl v7 v8 _ rfl
                show wpList _ _ _ _ _ _
                simp only [Act.put, List.setIfInBounds_toArray, List.set_cons_succ, List.set_cons_zero]
                go_wp2
                exact ⟨_, rfl, rfl, Grew.refl _⟩
              · rintro v0 v1 v2 v3 v4 v5 _ rfl v7 v8 v9 _ rfl
                show wpList _ _ _ _ _ _
                simp only [Act.put, List.setIfInBounds_toArray, List.set_cons_succ, List.set_cons_zero]
                have hR := Grew.of_drew hR
                have hcc := (HC0.out hR)
                go_wp2
                exact ⟨_, rfl, rfl, Grew.refl _⟩
              · rintro v0 v1 v2 v3 v4 v5 _ rfl v7 v8 v9 v10 v11
                show wpList _ _ _ _ _ _
                simp only [Act.put, List.setIfInBounds_toArray, List.set_cons_succ, List.set_cons_zero]
                go_wp2
                exact ⟨_, rfl, rfl, Grew.refl _⟩
              · rintro v0 v1 v2 v3 v4 v5 _ rfl v7 v8 v9 v10 _ rfl _ rfl
                show wpList _ _ _ _ _ _
                simp only [Act.put, List.setIfInBounds_toArray, List.set_cons_succ, List.set_cons_zero]
                go_wp2
                exact ⟨_, rfl, congrArg Value.bool (decide_eq_false (by omega)), Grew.refl _⟩
              · rintro v0 v1 v2 v3 v4 v5 _ rfl v7 v8 v9 v10 v11 v12 _ rfl
                show wpList _ _ _ _ _ _
                simp only [Act.put, List.setIfInBounds_toArray, List.set_cons_succ, List.set_cons_zero]
                go_wp2
                exact ⟨_, rfl, rfl, Grew.refl _⟩
              · rintro v0 v1 v2 v3 v4 v5 _ rfl v7 v8 v9 v10 v11 v12 v13 _ rfl
                show wpList _ _ _ _ _ _
                simp only [Act.put, List.setIfInBounds_toArray, List.set_cons_succ, List.set_cons_zero]
                go_wp2
                exact ⟨_, rfl, rfl, Grew.refl _⟩
              · rintro v0 v1 v2 v3 v4 v5 v6 v7 v8 v9 v10 v11 v12 v13 v14 _ rfl
                show wpList _ _ _ _ _ _
                simp only [Act.put, List.setIfInBounds_toArray, List.set_cons_succ, List.set_cons_zero]
                go_wp2
                exact ⟨_, rfl, rfl, Grew.refl _⟩
              · rintro v0 v1 v2 v3 v4 v5 v6 v7 v8 v9 v10 v11 v12 v13 v14 _ rfl v16
                show wpList _ _ _ _ _ _
                simp only [Act.put, List.setIfInBounds_toArray, List.set_cons_succ, List.set_cons_zero]
                go_wp2
                exact ⟨_, rfl, rfl, Grew.refl _⟩
              · rintro v0 v1 v2 v3 v4 v5 v6 v7 v8 v9 v10 v11 v12 v13 v14 _ rfl _ rfl _ rfl
                show wpList _ _ _ _ _ _
                simp only [Act.put, List.setIfInBounds_toArray, List.set_cons_succ, List.set_cons_zero]
                go_wp2
                exact ⟨_, rfl, rfl, Grew.refl _⟩
              · rintro v0 v1 v2 v3 v4 v5 v6 v7 v8 v9 v10 v11 v12 v13 v14 _ rfl v16 v17 _ rfl
                show wpList _ _ _ _ _ _
                simp only [Act.put, List.setIfInBounds_toArray, List.set_cons_succ, List.set_cons_zero]
                go_wp2
                exact ⟨_, rfl, rfl, Grew.refl _⟩
              · rintro v0 v1 v2 v3 v4 v5 v6 v7 v8 v9 v10 v11 v12 v13 v14 _ rfl v16 v17 v18 _ rfl
                show wpList _ _ _ _ _ _
                simp only [Act.put, List.setIfInBounds_toArray, List.set_cons_succ, List.set_cons_zero]
                have hR := Grew.of_drew hR
                have hcc := (HC1.out hR)
                go_wp2
                exact ⟨_, rfl, rfl, Grew.refl _⟩
              · rintro v0 v1 v2 v3 v4 v5 v6 v7 v8 v9 v10 v11 v12 v13 v14 _ rfl v16 v17 v18 v19 _ rfl
                show wpList _ _ _ _ _ _
                simp only [Act.put, List.setIfInBounds_toArray, List.set_cons_succ, List.set_cons_zero]
                go_wp2
                exact ⟨_, rfl, congrArg Value.bool (decide_eq_false (by omega)), Grew.refl _⟩
              · rintro v0 v1 v2 v3 v4 v5 v6 v7 v8 v9 v10 v11 v12 v13 v14 _ rfl v16 v17 v18 v19 v20 _ rfl
                show wpList _ _ _ _ _ _
                simp only [Act.put, List.setIfInBounds_toArray, List.set_cons_succ, List.set_cons_zero]
                go_wp2
                exact ⟨_, rfl, rfl, Grew.refl _⟩
              · rintro v0 v1 v2 v3 v4 v5 v6 v7 v8 v9 v10 v11 v12 v13 v14 _ rfl v16 v17 v18 v19 v20 v21 _ rfl
                show wpList _ _ _ _ _ _
                simp only [Act.put, List.setIfInBounds_toArray, List.set_cons_succ, List.set_cons_zero]
                go_wp2
                exact ⟨_, rfl, rfl, Grew.refl _⟩
              · rintro v0 v1 v2 v3 v4 v5 v6 v7 v8 v9 v10 v11 v12 v13 v14 v15 v16 v17 v18 v19 v20 v21 v22 _ rfl
                show wpList _ _ _ _ _ _
                simp only [Act.put, List.setIfInBounds_toArray, List.set_cons_succ, List.set_cons_zero]
                go_wp2
                exact ⟨_, rfl, rfl, Grew.refl _⟩
              · rintro v0 v1 v2 v3 v4 v5 v6 v7 v8 v9 v10 v11 v12 v13 v14 v15 v16 v17 v18 v19 v20 v21 v22 _ rfl v24
                show wpList _ _ _ _ _ _
                simp only [Act.put, List.setIfInBounds_toArray, List.set_cons_succ, List.set_cons_zero]
                go_wp2
                exact ⟨_, rfl, rfl, Grew.refl _⟩
              · rintro v0 v1 v2 v3 v4 v5 v6 v7 v8 v9 v10 v11 v12 v13 v14 v15 v16 v17 v18 v19 v20 v21 v22 _ rfl _ rfl _ rfl
                show wpList _ _ _ _ _ _
                simp only [Act.put, List.setIfInBounds_toArray, List.set_cons_succ, List.set_cons_zero]
                go_wp2
                exact ⟨_, rfl, rfl, Grew.refl _⟩
              · rintro v0 v1 v2 v3 v4 v5 v6 v7 v8 v9 v10 v11 v12 v13 v14 v15 v16 v17 v18 v19 v20 v21 v22 _ rfl v24 v25 _ rfl
                show wpList _ _ _ _ _ _
                simp only [Act.put, List.setIfInBounds_toArray, List.set_cons_succ, List.set_cons_zero]
                go_wp2
                exact ⟨_, rfl, rfl, Grew.refl _⟩
              · rintro v0 v1 v2 v3 v4 v5 v6 v7 v8 v9 v10 v11 v12 v13 v14 v15 v16 v17 v18 v19 v20 v21 v22 _ rfl v24 v25 v26 _ rfl
                show wpList _ _ _ _ _ _
                simp only [Act.put, List.setIfInBounds_toArray, List.set_cons_succ, List.set_cons_zero]
                have hR := Grew.of_drew hR
                have hcc := (HC1.out hR)
                go_wp2
                exact ⟨_, rfl, rfl, Grew.refl _⟩
              · rintro v0 v1 v2 v3 v4 v5 v6 v7 v8 v9 v10 v11 v12 v13 v14 v15 v16 v17 v18 v19 v20 v21 v22 _ rfl v24 v25 v26 v27 v28
                show wpList _ _ _ _ _ _
                simp only [Act.put, List.setIfInBounds_toArray, List.set_cons_succ, List.set_cons_zero]
                go_wp2
                exact ⟨_, rfl, rfl, Grew.refl _⟩
              · rintro v0 v1 v2 v3 v4 v5 v6 v7 v8 v9 v10 v11 v12 v13 v14 v15 v16 v17 v18 v19 v20 v21 v22 _ rfl v24 v25 v26 v27 _ rfl _ rfl
                show wpList _ _ _ _ _ _
                simp only [Act.put, List.setIfInBounds_toArray, List.set_cons_succ, List.set_cons_zero]
                go_wp2
                exact ⟨_, rfl, congrArg Value.bool (decide_eq_false (by omega)), Grew.refl _⟩
              · rintro v0 v1 v2 v3 v4 v5 v6 v7 v8 v9 v10 v11 v12 v13 v14 v15 v16 v17 v18 v19 v20 v21 v22 _ rfl v24 v25 v26 v27 v28 v29 _ rfl
                show wpList _ _ _ _ _ _
                simp only [Act.put, List.setIfInBounds_toArray, List.set_cons_succ, List.set_cons_zero]
                go_wp2
                exact ⟨_, rfl, rfl, Grew.refl _⟩
              · rintro v0 v1 v2 v3 v4 v5 v6 v7 v8 v9 v10 v11 v12 v13 v14 v15 v16 v17 v18 v19 v20 v21 v22 _ rfl v24 v25 v26 v27 v28 v29 v30 _ rfl
                show wpList _ _ _ _ _ _
                simp only [Act.put, List.setIfInBounds_toArray, List.set_cons_succ, List.set_cons_zero]
                go_wp2
                exact ⟨_, rfl, rfl, Grew.refl _⟩
              · rintro v0 v1 v2 v3 v4 v5 v6 v7 v8 v9 v10 v11 v12 v13 v14 v15 v16 v17 v18 v19 v20 v21 v22 v23 v24 v25 v26 v27 v28 v29 v30 v31 _ rfl
                show wpList _ _ _ _ _ _
                simp only [Act.put, List.setIfInBounds_toArray, List.set_cons_succ, List.set_cons_zero]
                go_wp2
                exact ⟨_, rfl, rfl, Grew.refl _⟩
              · rintro v0 v1 v2 v3 v4 v5 v6 v7 v8 v9 v10 v11 v12 v13 v14 v15 v16 v17 v18 v19 v20 v21 v22 v23 v24 v25 v26 v27 v28 v29 v30 v31 _ rfl v33
                show wpList _ _ _ _ _ _
                simp only [Act.put, List.setIfInBounds_toArray, List.set_cons_succ, List.set_cons_zero]
                go_wp2
                exact ⟨_, rfl, rfl, Grew.refl _⟩
              · rintro v0 v1 v2 v3 v4 v5 v6 v7 v8 v9 v10 v11 v12 v13 v14 v15 v16 v17 v18 v19 v20 v21 v22 v23 v24 v25 v26 v27 v28 v29 v30 v31 _ rfl v33 v34
                show wpList _ _ _ _ _ _
                simp only [Act.put, List.setIfInBounds_toArray, List.set_cons_succ, List.set_cons_zero]
                go_wp2
                exact ⟨_, rfl, rfl, Grew.refl _⟩
              · rintro v0 v1 v2 v3 v4 v5 v6 v7 v8 v9 v10 v11 v12 v13 v14 v15 v16 v17 v18 v19 v20 v21 v22 v23 v24 v25 v26 v27 v28 v29 v30 v31 _ rfl v33 _ rfl _ rfl
                show wpList _ _ _ _ _ _
                simp only [Act.put, List.setIfInBounds_toArray, List.set_cons_succ, List.set_cons_zero]
                go_wp2
                exact ⟨_, rfl, rfl, Grew.refl _⟩
              · rintro v0 v1 v2 v3 v4 v5 v6 v7 v8 v9 v10 v11 v12 v13 v14 v15 v16 v17 v18 v19 v20 v21 v22 v23 v24 v25 v26 v27 v28 v29 v30 v31 _ rfl v33 v34 v35 _ rfl
                show wpList _ _ _ _ _ _
                simp only [Act.put, List.setIfInBounds_toArray, List.set_cons_succ, List.set_cons_zero]
                go_wp2
                exact ⟨_, rfl, rfl, Grew.refl _⟩
              · rintro v0 v1 v2 v3 v4 v5 v6 v7 v8 v9 v10 v11 v12 v13 v14 v15 v16 v17 v18 v19 v20 v21 v22 v23 v24 v25 v26 v27 v28 v29 v30 v31 _ rfl v33 v34 v35 v36 _ rfl
                show wpList _ _ _ _ _ _
                simp only [Act.put, List.setIfInBounds_toArray, List.set_cons_succ, List.set_cons_zero]
                have hR := Grew.of_drew hR
                have hcc := (HC0.out hR)
                go_wp2
                exact ⟨_, rfl, rfl, Grew.refl _⟩
              · rintro v0 v1 v2 v3 v4 v5 v6 v7 v8 v9 v10 v11 v12 v13 v14 v15 v16 v17 v18 v19 v20 v21 v22 v23 v24 v25 v26 v27 v28 v29 v30 v31 _ rfl _ rfl v34 v35 v36 v37 _ rfl
                show wpList _ _ _ _ _ _
                simp only [Act.put, List.setIfInBounds_toArray, List.set_cons_succ, List.set_cons_zero]
                go_wp2
                exact ⟨_, rfl, rfl, Grew.refl _⟩
              · rintro v0 v1 v2 v3 v4 v5 v6 v7 v8 v9 v10 v11 v12 v13 v14 v15 v16 v17 v18 v19 v20 v21 v22 v23 v24 v25 v26 v27 v28 v29 v30 v31 _ rfl v33 v34 v35 v36 v37 v38 _ rfl
                show wpList _ _ _ _ _ _
                simp only [Act.put, List.setIfInBounds_toArray, List.set_cons_succ, List.set_cons_zero]
                have hR := Grew.of_drew hR
                have hcc := (HF.out hR)
                go_wp2
                exact ⟨_, rfl, rfl, Grew.refl _⟩
              · rintro v0 v1 v2 v3 v4 v5 v6 v7 v8 v9 v10 v11 v12 v13 v14 v15 v16 v17 v18 v19 v20 v21 v22 v23 v24 v25 v26 v27 v28 v29 v30 v31 _ rfl v33 v34 v35 v36 v37 v38 v39 v40
                show wpList _ _ _ _ _ _
                simp only [Act.put, List.setIfInBounds_toArray, List.set_cons_succ, List.set_cons_zero]
                go_wp2
                exact ⟨_, rfl, rfl, Grew.refl _⟩
              · rintro v0 v1 v2 v3 v4 v5 v6 v7 v8 v9 v10 v11 v12 v13 v14 v15 v16 v17 v18 v19 v20 v21 v22 v23 v24 v25 v26 v27 v28 v29 v30 v31 _ rfl v33 v34 v35 v36 v37 v38 v39 v40 v41
                show wpList _ _ _ _ _ _
                simp only [Act.put, List.setIfInBounds_toArray, List.set_cons_succ, List.set_cons_zero]
                go_wp2
                exact ⟨_, rfl, rfl, Grew.refl _⟩
              · rintro v0 v1 v2 v3 v4 v5 v6 v7 v8 v9 v10 v11 v12 v13 v14 v15 v16 v17 v18 v19 v20 v21 v22 v23 v24 v25 v26 v27 v28 v29 v30 v31 _ rfl v33 v34 v35 v36 v37 v38 v39 v40 v41 v42
                show wpList _ _ _ _ _ _
                simp only [Act.put, List.setIfInBounds_toArray, List.set_cons_succ, List.set_cons_zero]
                go_wp2
                exact ⟨_, rfl, rfl, Grew.refl _⟩
              · rintro v0 v1 v2 v3 v4 v5 v6 v7 v8 v9 v10 v11 v12 v13 v14 v15 v16 v17 v18 v19 v20 v21 v22 v23 v24 v25 v26 v27 v28 v29 v30 v31 _ rfl v33 v34 v35 v36 v37 v38 v39 v40 v41 _ rfl _ rfl
                show wpList _ _ _ _ _ _
                simp only [Act.put, List.setIfInBounds_toArray, List.set_cons_succ, List.set_cons_zero]
                go_wp2
                exact ⟨_, rfl, rfl, Grew.refl _⟩
              · rintro v0 v1 v2 v3 v4 v5 v6 v7 v8 v9 v10 v11 v12 v13 v14 v15 v16 v17 v18 v19 v20 v21 v22 v23 v24 v25 v26 v27 v28 v29 v30 v31 _ rfl v33 v34 v35 v36 v37 v38 v39 v40 v41 v42 v43 _ rfl
                show wpList _ _ _ _ _ _
                simp only [Act.put, List.setIfInBounds_toArray, List.set_cons_succ, List.set_cons_zero]
                go_wp2
                exact ⟨_, rfl, rfl, Grew.refl _⟩
              · rintro v0 v1 v2 v3 v4 v5 v6 v7 v8 v9 v10 v11 v12 v13 v14 v15 v16 v17 v18 v19 v20 v21 v22 v23 v24 v25 v26 v27 v28 v29 v30 v31 _ rfl v33 v34 v35 v36 v37 v38 v39 v40 v41 v42 v43 v44 _ rfl
                show wpList _ _ _ _ _ _
                simp only [Act.put, List.setIfInBounds_toArray, List.set_cons_succ, List.set_cons_zero]
                have hR := Grew.of_drew hR
                have hcc := (HC1.out hR)
                go_wp2
                exact ⟨_, rfl, rfl, Grew.refl _⟩
              · rintro v0 v1 v2 v3 v4 v5 v6 v7 v8 v9 v10 v11 v12 v13 v14 v15 v16 v17 v18 v19 v20 v21 v22 v23 v24 v25 v26 v27 v28 v29 v30 v31 _ rfl v33 v34 v35 v36 v37 v38 v39 v40 _ rfl v42 v43 v44 v45 _ rfl
                show wpList _ _ _ _ _ _
                simp only [Act.put, List.setIfInBounds_toArray, List.set_cons_succ, List.set_cons_zero]
                go_wp2
                exact ⟨_, rfl, rfl, Grew.refl _⟩
              · rintro v0 v1 v2 v3 v4 v5 v6 v7 v8 v9 v10 v11 v12 v13 v14 v15 v16 v17 v18 v19 v20 v21 v22 v23 v24 v25 v26 v27 v28 v29 v30 v31 _ rfl v33 v34 v35 v36 v37 v38 v39 v40 v41 v42 v43 v44 v45 v46 _ rfl
                show wpList _ _ _ _ _ _
                simp only [Act.put, List.setIfInBounds_toArray, List.set_cons_succ, List.set_cons_zero]
                have hR := Grew.of_drew hR
                have hcc := (HT.out hR)
                go_wp2
                exact ⟨_, rfl, rfl, Grew.refl _⟩
              · rintro v0 v1 v2 v3 v4 v5 v6 v7 v8 v9 v10 v11 v12 v13 v14 v15 v16 v17 v18 v19 v20 v21 v22 v23 v24 v25 v26 v27 v28 v29 v30 v31 _ rfl v33 v34 v35 v36 v37 v38 v39 _ rfl v41 v42 v43 v44 v45 v46 v47 _ rfl
                show wpList _ _ _ _ _ _
                simp only [Act.put, List.setIfInBounds_toArray, List.set_cons_succ, List.set_cons_zero]
                go_wp2
                exact ⟨_, rfl, congrArg Value.bool (decide_eq_false (by omega)), Grew.refl _⟩
              · rintro v0 v1 v2 v3 v4 v5 v6 v7 v8 v9 v10 v11 v12 v13 v14 v15 v16 v17 v18 v19 v20 v21 v22 v23 v24 v25 v26 v27 v28 v29 v30 v31 _ rfl v33 v34 v35 v36 v37 v38 v39 v40 v41 v42 v43 v44 v45 v46 v47 v48 _ rfl
                show wpList _ _ _ _ _ _
                simp only [Act.put, List.setIfInBounds_toArray, List.set_cons_succ, List.set_cons_zero]
                go_wp2
                exact ⟨_, rfl, rfl, Grew.refl _⟩
            case fin =>
              rintro w' hR _ rfl _ rfl _ rfl _ rfl _ rfl _ rfl _ rfl _ rfl _ rfl _ rfl _ rfl _ rfl _ rfl _ rfl _ rfl _ rfl _ rfl _ rfl _ rfl _ rfl _ rfl _ rfl _ rfl _ rfl _ rfl _ rfl _ rfl _ rfl _ rfl _ rfl _ rfl _ rfl _ rfl _ rfl _ rfl _ rfl _ rfl _ rfl _ rfl _ rfl _ rfl _ rfl _ rfl _ rfl _ rfl _ rfl _ rfl _ rfl _ rfl _ rfl _ rfl
              show wpList _ _ _ _ _ _
              simp only [Act.put, List.setIfInBounds_toArray, List.set_cons_succ, List.set_cons_zero, List.drop_succ_cons, List.drop_zero, List.drop_nil]
              have hR := Grew.of_drew hR
              go_wp2
              go_roundw
              case rel => exact ⟨k + 1, by omega, by go_num, hg2.trans hR⟩
              case measure => simp [intOf]; omega
          · go_wp2
            go_ret
            exact ⟨rfl, (G.out.trans HBL.out).trans hg2⟩
  · have hf := ordR_fst hok
    rw [hf] at s2
    have hm2 : m2 = 0 := by have := s2.1; simpa using this.symm
    subst hm2
    have G := Lib.hid (g1.trans g2)
    clear hf s2 g1 g2
    go_wp2
    go_ret
    exact ⟨rfl, G.out⟩
end Go.Proofs.Ytnihkdmdbmnniaa
