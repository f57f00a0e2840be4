/- The walk of LinksMixed. -/
import Derived.Test.YtnihkdmdbmnniaaW16
import Derived.OpenShut
import Derived.Test.YtnihkdmdbmnniaaLinksValuesSpecW
import Derived.Test.YtnihkdmdbmnniaaLinksOrderSpecW
import Derived.Test.YtnihkdmdbmnniaaPlain6
set_option linter.unusedSimpArgs false
namespace Go.Proofs.Ytnihkdmdbmnniaa
open Go.RowKit

/-- A slice of bytes. -/
def SlU (w : World) (A : Option Addr) (n : Nat) (xs : List Int) : Prop :=
  xs.length = n ∧ (0 < n → ∃ b off, A = some ⟨b, off, none⟩ ∧ b < w.heap.size ∧ ∀ j, j < n → w.cell? ⟨b, off + j, none⟩ = some (.int .u8 (xs.getD j 0)) ∧ 0 ≤ xs.getD j 0 ∧ xs.getD j 0 < 256)

theorem SlU.grew {w w' : World} {A : Option Addr} {n : Nat} {xs : List Int} (h : SlU w A n xs) (g : Grew w w') : SlU w' A n xs := by
  obtain ⟨hl, hc⟩ := h
  refine ⟨hl, fun hn => ?_⟩
  obtain ⟨b, off, rfl, hb, hcell⟩ := hc hn
  exact ⟨b, off, rfl, Nat.lt_of_lt_of_le hb g.size, fun j hj => ⟨(g.cell hb).trans (hcell j hj).1, (hcell j hj).2⟩⟩

theorem row_nil {w : World} {a : Option Addr} {len cap : Nat} {zs : List Int} {k : IntKind}
    (h : (a = none ∧ len = 0 ∧ cap = 0 ∧ zs = []) ∨ ∃ x, a = some x ∧ len ≤ cap ∧ cap ≤ maxLen ∧ zs.length = cap ∧ (∀ i, i < zs.length → w.cell? (x.add i) = some (.int k (zs.getD i 0))) ∧ ∀ n ∈ zs, (Lit.int k n).wf = true) : a = none → len = 0 ∧ cap = 0 := by
  rcases h with ⟨rfl, rfl, rfl, rfl⟩ | ⟨x, rfl, _⟩
  · exact fun _ => ⟨rfl, rfl⟩
  · intro h; cases h

/-- A slice of bytes that came in. -/
theorem slu_of_row {w : World} {a : Option Addr} {len cap : Nat} {zs : List Int}
    (h : (a = none ∧ len = 0 ∧ cap = 0 ∧ zs = []) ∨ ∃ x, a = some x ∧ len ≤ cap ∧ cap ≤ maxLen ∧ zs.length = cap ∧ (∀ i, i < zs.length → w.cell? (x.add i) = some (.int .u8 (zs.getD i 0))) ∧ ∀ n ∈ zs, (Lit.int .u8 n).wf = true) :
    SlU w a len (zs.take len) := by
  rcases h with ⟨rfl, rfl, rfl, rfl⟩ | ⟨x, rfl, hl, _, hz, hc, hw⟩
  · exact ⟨rfl, fun h => absurd h (by omega)⟩
  · refine ⟨by simp; omega, fun hn => ?_⟩
    have h0 := hc 0 (by omega)
    have hs : x.spot = none := by
      cases hsp : x.spot with
      | none => rfl
      | some k =>
        exfalso
        simp only [Addr.add, if_true, World.cell?] at h0
        split at h0
        · simp [hsp] at h0
        · cases h0
    have hb : x.block < w.heap.size := by
      rcases Nat.lt_or_ge x.block w.heap.size with h | h
      · exact h
      · simp [Addr.add, World.cell?, Array.getElem?_eq_none h] at h0
    refine ⟨x.block, x.off, by rw [← hs], hb, fun j hj => ?_⟩
    have := hc j (by omega)
    have e : x.add j = ⟨x.block, x.off + j, none⟩ := by
      unfold Addr.add
      split
      · rename_i h; subst h; rw [← hs]; rfl
      · rfl
    rw [e] at this
    have hj2 : j < zs.length := by omega
    have hd : (zs.take len).getD j 0 = zs.getD j 0 := by simp [List.getD, hj]
    rw [this, hd]
    have hm : zs.getD j 0 ∈ zs := by simp [List.getD, hj2]
    have hbd := bounds_u8 (hw _ hm)
    exact ⟨rfl, by omega, by omega⟩

set_option maxRecDepth 100000 in
set_option maxHeartbeats 1000000 in
theorem linksMixed_walk (A : Option Addr) (m c : Nat) (ls : List Lk) (hA : A = none → m = 0 ∧ c = 0) (B : Option Addr) (n d : Nat) (vs : List Int) (hB : B = none → n = 0 ∧ d = 0) (T : Option Addr) (tn tc : Nat) (ts : List Int) (oth : Int) (w : World) (hs : SlL w A m ls) (ht : Sl w B n vs) (hu : SlU w T tn ts) :
    Calls Try.prog 8 #[.slice A m c, .slice B n d, .slice T tn tc, .int .i64 oth] w fun e w' => e = .returned (.bool true) ∧ Grew w w' := by
  have HS := Lib.hid hs
  have HT := Lib.hid ht
  have HU := Lib.hid hu
  have HA := Lib.hid hA
  have HB := Lib.hid hB
  clear hs ht hu hA hB
  obtain ⟨i0, hi, hz0, hz1, hz2⟩ := info_parts Try.info34
  obtain ⟨i3, hi3, hy0, hy1, hy2⟩ := info_parts Try.info3
  go_enter Try.func8, Try.ntmps8
  go_wp2_with fail
  refine (sane _).mono ?_
  rintro e w1 ⟨rfl, g1⟩
  by_cases h1 : 40 < m
  · go_wp2
    go_ret
    exact ⟨rfl, g1⟩
  by_cases h2 : 300 < n
  · go_wp2
    go_ret
    exact ⟨rfl, g1⟩
  by_cases h3 : 40 < tn
  · go_wp2
    go_ret
    exact ⟨rfl, g1⟩
  go_wp2_with (at_builtin; refine wpList_append_sll _ rfl (.tmp 39) (.tmp 40) 22 rfl w1.heap.size 34 i0 Try.underlying22 hi hz0 hz1 hz2 _ _ [] rfl (own_empty5 w1 34) A m c ls rfl (HS.out.grew (g1.alloc _)) HA.out (by omega) (by simp) ?_; intro v2 w2 hown2 hgrow2; have g2 := Lib.hid (grew_own ((Grew.refl w1).alloc (.cells #[] 34)) (own_empty5 w1 34) hgrow2))
  have hown : w2.ownsRow w1.heap.size 34 5 v2 m (lkv ls) := by simpa using hown2
  obtain ⟨A2, c2, rfl, hc2, sl2⟩ := own_sll hown
  have HOW := Lib.hid hown
  clear hown hown2 hgrow2 sl2
  go_loopw [10] (fun i wr => ∃ (j : Nat) (ms : List Lk), j ≤ tn ∧ i = .int .i64 j ∧ Hid (ms.Perm ls) ∧ Hid (wr.ownsRow w1.heap.size 34 5 (.slice A2 m c2) m (lkv ms)) ∧ Grew w1 wr) (fun i _ => tn - (intOf i).toNat)
  case atStart => exact ⟨0, ls, Nat.zero_le _, rfl, List.Perm.refl _, HOW.out, g2.out⟩
  case round =>
    obtain ⟨j, ms, hj, rfl, HP, HO, hg⟩ := hrel
    by_cases hlt : j < tn ∧ 0 < m
    · obtain ⟨hlt, hm0⟩ := hlt
      have hml : j % m < m := Nat.mod_lt _ (by omega)
      have HMS : Hid (ms.length = m) := HP.out.length_eq.trans HS.out.1
      have hja : (j : Int) % (m : Int) = ((j % m : Nat) : Int) := (Int.natCast_emod j m).symm
      obtain ⟨bt, offt, hT, hbt, hcell⟩ := (HU.out.grew (g1.trans hg)).2 (by omega)
      obtain ⟨hct, ht0, ht1⟩ := hcell j hlt
      rw [hT]
      generalize ts.getD j 0 = tb at hct ht0 ht1
      generalize j % m = a at hml hja
      clear hcell hT
      obtain ⟨q, hq⟩ : ∃ q : Nat, tb % (m : Int) = q := ⟨(tb % (m : Int)).toNat, by have := Int.emod_nonneg tb (show (m : Int) ≠ 0 by omega); omega⟩
      have hqm : q < m := by have := Int.emod_lt_of_pos tb (show 0 < (m : Int) by omega); omega
      rcases HO.out.2 with ⟨_, e5⟩ | ⟨g, cap, cur, hv, hb1, hh, r1, r2, r3, r4⟩
      · exfalso; omega
      injection hv with hv1 _ hv2
      subst hv1 hv2
      have hgl : g < wr.heap.size := Blk.lt (t := 34) (cs := cur) hh
      clear r1 r2 r3 r4 hh
      have HX : Hid (∃ y, ms.getD a Lk.z = y) := ⟨_, rfl⟩
      have HY : Hid (∃ y, ms.getD q Lk.z = y) := ⟨_, rfl⟩
      obtain ⟨x, hx⟩ := HX.out
      obtain ⟨y, hy⟩ := HY.out
      have L1 := Lib.hid <| own_load HO.out hml x hx
      have HO1 := Lib.hid (own_grew HO.out ((Grew.refl wr).alloc (.cells #[.int .i64 x.fr, .int .i64 x.to, .int .i64 x.num, .int .i64 x.den, .int .i64 x.add] 34)))
      have L2 := Lib.hid <| own_load HO1.out hqm y hy
      obtain ⟨w3, s1, hO3, hg3, hs3, hc3⟩ := own_store HO1.out hml y
      have HW : Hid (w3.cell? ⟨wr.heap.size, 0, none⟩ = some (.int .i64 x.fr) ∧ w3.cell? ⟨wr.heap.size, 0 + 1, none⟩ = some (.int .i64 x.to) ∧ w3.cell? ⟨wr.heap.size, 0 + 2, none⟩ = some (.int .i64 x.num) ∧ w3.cell? ⟨wr.heap.size, 0 + 3, none⟩ = some (.int .i64 x.den) ∧ w3.cell? ⟨wr.heap.size, 0 + 4, none⟩ = some (.int .i64 x.add)) := by
        refine ⟨?_, ?_, ?_, ?_, ?_⟩ <;> rw [hc3 _ (by omega), cell_new] <;> rfl
      have L3 := Lib.hid <| run_load34 w3 wr.heap.size 0 x HW.out.1 HW.out.2.1 HW.out.2.2.1 HW.out.2.2.2.1 HW.out.2.2.2.2
      obtain ⟨w4, s2, hO4, hg4, hs4, hc4⟩ := own_store hO3 hqm x
      have HPN : Hid (((ms.set a y).set q x).Perm ls) := by
        refine List.Perm.trans ?_ HP.out
        have := swap_perm ms a q (by rw [HMS.out]; exact hml) (by rw [HMS.out]; exact hqm)
        rw [hx, hy] at this
        exact this
      have HO4 := Lib.hid hO4
      have S1 := Lib.hid s1
      have S2 := Lib.hid s2
      have HG4 : Hid (Grew w1 w4) := hg4 (hg3 (hg.alloc _) (by have := hg.size; omega)) (by have := hg.size; omega)
      clear s1 s2 hx hy HX HY HO1 hO3 hO4 hg3 hg4 hs3 hs4 hc3 hc4 HW
      go_wp2_with (first | (refine wpList_load_run ?_ 34 (.tmp 67) ?_ (.pointer (some ⟨g, a * 5, none⟩)) (.agg #[.int .i64 x.fr, .int .i64 x.to, .int .i64 x.num, .int .i64 x.den, .int .i64 x.add]) ?_ ?_ ?_; exact rfl; exact rfl; exact rfl; exact L1.out) | (refine wpList_load_run ?_ 34 (.tmp 73) ?_ (.pointer (some ⟨g, q * 5, none⟩)) (.agg #[.int .i64 y.fr, .int .i64 y.to, .int .i64 y.num, .int .i64 y.den, .int .i64 y.add]) ?_ ?_ ?_; exact rfl; exact rfl; exact rfl; exact L2.out) | (refine wpList_store_run ?_ 34 (.tmp 75) (.tmp 74) ?_ (.pointer (some ⟨g, a * 5, none⟩)) (.agg #[.int .i64 y.fr, .int .i64 y.to, .int .i64 y.num, .int .i64 y.den, .int .i64 y.add]) ?_ ?_ w3 ?_ ?_; exact rfl; exact rfl; exact rfl; exact rfl; exact S1.out) | (refine wpList_load_run ?_ 34 (.tmp 13) ?_ (.pointer (some ⟨wr.heap.size, 0, none⟩)) (.agg #[.int .i64 x.fr, .int .i64 x.to, .int .i64 x.num, .int .i64 x.den, .int .i64 x.add]) ?_ ?_ ?_; exact rfl; exact rfl; exact rfl; exact L3.out) | (refine wpList_store_run ?_ 34 (.tmp 79) (.tmp 78) ?_ (.pointer (some ⟨g, q * 5, none⟩)) (.agg #[.int .i64 x.fr, .int .i64 x.to, .int .i64 x.num, .int .i64 x.den, .int .i64 x.add]) ?_ ?_ w4 ?_ ?_; exact rfl; exact rfl; exact rfl; exact rfl; exact S2.out))
      go_roundw
      case rel => exact ⟨j + 1, _, by omega, by go_num, HPN, HO4, HG4.out⟩
      case measure => simp [intOf]; omega
    · rename World => wq
      have hmm : m ≤ 40 := by omega
      have hcs : (j < tn ∧ ¬ 0 < m) ∨ ¬ j < tn := by omega
      rcases hcs with ⟨hjt, hm0⟩ | hjt
      all_goals
        clear hlt
        go_wp2_with (at_builtin; refine wpList_append_sl _ rfl (.tmp 80) (.tmp 81) 27 rfl wq.heap.size 3 i3 Try.underlying27 hi3 hy0 hy1 hy2 _ _ _ rfl (own_empty wq 3) B n d vs rfl (HT.out.grew (g1.trans (hg.alloc _))) HB.out (by omega) (by simp) ?_; intro v5 w5 hown5 hgrow5; have g5 := Lib.hid (grew_own ((Grew.refl wq).alloc (.cells #[] 3)) (own_empty wq 3) hgrow5))
        have hown6 : w5.ownsRow wq.heap.size 3 1 v5 n (vs.map (Value.int .i64)) := by simpa using hown5
        obtain ⟨A5, c5, rfl, hc5, _⟩ := own_sl hown6
        have HOW5 := Lib.hid hown6
        clear hown5 hown6 hgrow5
        have HG := Lib.hid hg
        clear hg
        go_loopw [15] (fun i wz => ∃ k : Nat, k ≤ m ∧ i = .int .i64 k ∧ Hid (wz.ownsRow wq.heap.size 3 1 (.slice A5 n c5) n ((chg (ls.take k) vs oth).map (Value.int .i64))) ∧ Grew wq wz) (fun i _ => m - (intOf i).toNat)
        case atStart => exact ⟨0, Nat.zero_le _, rfl, HOW5.out, g5.out⟩
        case round =>
          obtain ⟨k, hk, rfl, HO5, hg5⟩ := hrel
          have G5 := Lib.hid hg5
          clear hg5
          by_cases hlt : k < m
          · try (exfalso; omega)
            all_goals
              have hkl : k < ls.length := by rw [HS.out.1]; exact hlt
              have HTK := Lib.hid (takeL_snoc ls k hkl)
              obtain ⟨b, off, hA1, hb, hcell⟩ := ((HS.out.grew g1).grew (HG.out.trans G5.out)).2 (by omega)
              obtain ⟨c0, c1, c2', c3, c4⟩ := hcell k hlt
              rw [hA1]
              generalize ls.getD k Lk.z = x at *
              have HL5 : Hid ((chg (ls.take k) vs oth).length = n) := by rw [chg_length]; exact HT.out.1
              clear hcell hA1 c0 c2' c3 c4
              by_cases t0 : 0 ≤ x.to
              · by_cases t1 : x.to < n
                · obtain ⟨g, cur, hA5, hgb, hblk, hcs⟩ := own_at HO5.out (by omega)
                  subst hA5
                  have hgl := hblk.lt
                  have hfg := hblk.frozen x.to.toNat
                  have hcg := hblk.cell x.to.toNat
                  rw [Array.getElem?_eq_getElem (by omega)] at hcg
                  generalize cur[x.to.toNat] = cv at hcg
                  have HP5 := Lib.hid (own_put1 HO5.out x.to.toNat oth)
                  have hchg : chg (ls.take (k + 1)) vs oth = (chg (ls.take k) vs oth).set x.to.toNat oth := by
                    rw [HTK.out, chg_snoc, if_pos ⟨t0, by rw [HL5.out]; exact t1⟩]
                  rw [← hchg] at HP5
                  have HG5 : Hid (Grew wq (wr.setCell ⟨g, x.to.toNat, none⟩ (.int .i64 oth))) := grew_set G5.out hgb _
                  clear hblk hcs hchg HTK
                  go_wp2
                  go_roundw
                  case rel => exact ⟨k + 1, by omega, by go_num, HP5, HG5.out⟩
                  case measure => simp [intOf]; omega
                · have hchg : chg (ls.take (k + 1)) vs oth = chg (ls.take k) vs oth := by
                    rw [HTK.out, chg_snoc, if_neg (by rw [HL5.out]; omega)]
                  have HP5 := Lib.hid HO5.out
                  rw [← hchg] at HP5
                  clear hchg HTK
                  go_wp2
                  go_roundw
                  case rel => exact ⟨k + 1, by omega, by go_num, HP5, G5.out⟩
                  case measure => simp [intOf]; omega
              · have hchg : chg (ls.take (k + 1)) vs oth = chg (ls.take k) vs oth := by
                    rw [HTK.out, chg_snoc, if_neg (by omega)]
                have HP5 := Lib.hid HO5.out
                rw [← hchg] at HP5
                clear hchg HTK
                go_wp2
                go_roundw
                case rel => exact ⟨k + 1, by omega, by go_num, HP5, G5.out⟩
                case measure => simp [intOf]; omega
          · have hkm : k = m := by omega
            subst hkm
            have HO6 : Hid (wr.ownsRow wq.heap.size 3 1 (.slice A5 n c5) n ((chg ls vs oth).map (Value.int .i64))) := by
              have := HO5.out
              rw [List.take_of_length_le (by rw [HS.out.1]; exact Nat.le_refl _)] at this
              exact this
            go_wp2_with fail
            refine (values_ _ _ _ _ _ _ _ _ _ ((HS.out.grew g1).grew (HG.out.trans G5.out)) ((HT.out.grew g1).grew (HG.out.trans G5.out))).mono ?_
            rintro e w6 ⟨g6, A6, m6, c6, s6, hc6, rfl⟩
            have S6 := Lib.hid s6
            clear s6
            obtain ⟨A2', c2', e2, _, sl2⟩ := own_sll HO.out
            injection e2 with e2a _ e2b
            subst e2a e2b
            obtain ⟨A5', c5', e5, _, sl5⟩ := own_sl HO6.out
            injection e5 with e5a _ e5b
            subst e5a e5b
            have GA := Lib.hid (g1.trans (HG.out.trans G5.out))
            have SM := Lib.hid ((sl2.grew G5.out).grew g6)
            have SC := Lib.hid (sl5.grew g6)
            have GB := Lib.hid (GA.out.trans g6)
            clear sl2 sl5 g6 HO5 HO6 HO G5 HG
            go_wp2_with fail
            refine (values_ _ _ _ _ _ _ _ _ _ SM.out SC.out).mono ?_
            rintro e w7 ⟨g7, A7, m7, c7, s7, hc7, rfl⟩
            rw [valR_perm HP.out] at s7 ⊢
            have S7 := Lib.hid s7
            have S6 := Lib.hid (S6.out.grew g7)
            have SM := Lib.hid (SM.out.grew g7)
            have GB := Lib.hid (GB.out.trans g7)
            clear s7 g7
            go_wp2_with fail
            refine (order_ _ _ _ _ _ _ (HS.out.grew GB.out)).mono ?_
            rintro e w8 ⟨g8, A8, m8, c8, s8, hc8, rfl⟩
            have S8 := Lib.hid s8
            have S7 := Lib.hid (S7.out.grew g8)
            have S6 := Lib.hid (S6.out.grew g8)
            have SM := Lib.hid (SM.out.grew g8)
            have GB := Lib.hid (GB.out.trans g8)
            clear s8 g8
            go_wp2_with fail
            refine (order_ _ _ _ _ _ _ SM.out).mono ?_
            rintro e w9 ⟨g9, A9, m9, c9, s9, hc9, rfl⟩
            rw [ordR_perm HP.out] at s9 ⊢
            have S9 := Lib.hid s9
            have S8 := Lib.hid (S8.out.grew g9)
            have S7 := Lib.hid (S7.out.grew g9)
            have S6 := Lib.hid (S6.out.grew g9)
            have GB := Lib.hid (GB.out.trans g9)
            clear s9 g9
            go_wp2_with fail
            refine (same_ _ _ _ _ _ _ _ _ _ S6.out S7.out (by have := S6.out.1; have := valR_len ls vs; have := HT.out.1; omega)).mono ?_
            rintro e w10 ⟨rfl, g10⟩
            rw [decide_eq_true rfl]
            have S9 := Lib.hid (S9.out.grew g10)
            have S8 := Lib.hid (S8.out.grew g10)
            have GB := Lib.hid (GB.out.trans g10)
            clear g10
            go_wp2_with fail
            refine (same_ _ _ _ _ _ _ _ _ _ S8.out S9.out (by have := S8.out.1; have := ordR_len n ls; omega)).mono ?_
            rintro e w11 ⟨rfl, g11⟩
            rw [decide_eq_true rfl]
            go_wp2
            go_ret
            exact ⟨by simp, GB.out.trans g11⟩
end Go.Proofs.Ytnihkdmdbmnniaa
