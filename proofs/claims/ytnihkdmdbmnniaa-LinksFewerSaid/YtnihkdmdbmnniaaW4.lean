/- The contract of Order. -/
import Derived.Test.YtnihkdmdbmnniaaW3
import Derived.Laws.EntriesVeiled
namespace Go.Proofs.Ytnihkdmdbmnniaa
open Go.RowKit

theorem Try.info3 : (Try.prog.info? 3).map (fun i => (i.zero, i.size, i.bytes)) = some (some (.int .i64 0), 1, 8) := by kernel_rfl

/-- The first k parameters in order. -/
def ordK (ls : List Lk) (n : Nat) : Nat → Option (List Int)
  | 0 => some []
  | k + 1 => match ordK ls n k with
    | none => none
    | some os => match nextF ls os n with
      | some p => some (os ++ [(p : Int)])
      | none => none

def badL (n : Int) (ls : List Lk) : Bool := !decide ((mapOf ls).length = ls.length) || !ls.all (okL n)

/-- What Order answers. -/
def ordR (n : Int) (ls : List Lk) : List Int × Int :=
  if n < 0 ∨ 256 < n then ([], 1) else if 256 < ls.length then ([], 2) else if badL n ls then ([], 130) else
  match ordK ls n.toNat n.toNat with
  | some os => (os, 0)
  | none => ([], 131)

def OrdV (w : World) (n : Int) (ls : List Lk) (e : Ending) (w' : World) : Prop :=
  Grew w w' ∧ ∃ A m c, Sl w' A m (ordR n ls).1 ∧ m ≤ c ∧ e = .returned (.tuple #[.slice A m c, .int .i64 (ordR n ls).2])

theorem OrdV.nil {w w' : World} {n : Int} {ls : List Lk} {k : Int} (h : ordR n ls = ([], k)) (g : Grew w w') : OrdV w n ls (.returned (.tuple #[.slice none 0 0, .int .i64 k])) w' :=
  ⟨g, none, 0, 0, by rw [h]; exact Sl.nil _ _, Nat.le_refl _, by rw [h]⟩

theorem ordK_none (ls : List Lk) (n j : Nat) (os : List Int) (h : ordK ls n j = some os) (hn : nextF ls os n = none) : ∀ d, ordK ls n (j + 1 + d) = none
  | 0 => by show ordK ls n (j + 1) = none; simp only [ordK, h, hn]
  | d + 1 => by
    have := ordK_none ls n j os h hn d
    show ordK ls n (j + 1 + d + 1) = none
    rw [ordK, this]

theorem ordK_some (ls : List Lk) (n j : Nat) (os : List Int) (p : Nat) (h : ordK ls n j = some os) (hn : nextF ls os n = some p) : ordK ls n (j + 1) = some (os ++ [(p : Int)]) := by
  simp only [ordK, h, hn]

theorem next_not_mem {ls : List Lk} {os : List Int} {n p : Nat} (h : nextF ls os n = some p) : (p : Int) ∉ os ∧ p < n := by
  unfold nextF at h
  have h1 := List.find?_some h
  have h2 := List.mem_of_find?_eq_some h
  refine ⟨?_, List.mem_range.1 h2⟩
  intro hm
  simp [rdy, hm] at h1

theorem own_kept {w w' : World} {base : Nat} {e : TypeId} {size : Nat} {v : Value} {n : Nat} {xs : List Value} {row : Option Nat} (h : w.ownsRow base e size v n xs) (hg : w.grownBy w' row) (hr : ∀ k, row = some k → k < base) : w'.ownsRow base e size v n xs := by
  obtain ⟨h1, h2⟩ := h
  refine ⟨h1, ?_⟩
  rcases h2 with h2 | ⟨g, cap, cur, hv, hge, hh, r⟩
  · exact Or.inl h2
  · exact Or.inr ⟨g, cap, cur, hv, hge, (hg.block g (Array.getElem?_eq_some_iff.1 hh).1 (fun e => by have := hr g e.symm; omega)).trans hh, r⟩

theorem NX.step {w5 w6 w7 : World} {Bn Bm Bl r rl B : Nat} {n : Int} {ls : List Lk} {os os' : List Int} (h : NX w5 Bn Bm Bl r rl n ls os) (hg : w5.grownBy w6 (some rl)) (hl : IMap w6 rl (lm os')) (hb : Below B w6 w7)
    (d1 : Bn ≠ rl) (d2 : Bm ≠ rl) (d3 : Bl ≠ rl) (d4 : r ≠ rl) (e1 : Bn < B) (e2 : Bm < B) (e3 : Bl < B) (e4 : r < B) (e5 : rl < B) : NX w7 Bn Bm Bl r rl n ls os' := by
  have s1 := hg.size
  have s2 := hb.size
  have c : ∀ b, b < w5.heap.size → b ≠ rl → b < B → w7.heap[b]? = w5.heap[b]? := fun b h1 h2 h3 => (hb.block b h3).trans (hg.block b h1 (fun e => h2 (by injection e)))
  exact ⟨(World.cell?_of_block (a := ⟨Bn, 0, none⟩) (c Bn h.bn d1 e1)).trans h.cn, (World.cell?_of_block (a := ⟨Bm, 0, none⟩) (c Bm h.bm d2 e2)).trans h.cm, (World.cell?_of_block (a := ⟨Bl, 0, none⟩) (c Bl h.bl d3 e3)).trans h.cl,
    by have := h.bn; omega, by have := h.bm; omega, by have := h.bl; omega, (h.m.grown hg (fun e => d4 (by injection e))).below hb e4, hl.below hb e5⟩

set_option maxHeartbeats 2000000 in
theorem order_ (n : Int) (A : Option Addr) (m c : Nat) (ls : List Lk) (w : World) (hs : SlL w A m ls) :
    Calls Try.prog 13 #[.int .i64 n, .slice A m c] w (OrdV w n ls) := by
  have HS := Lib.hid hs
  clear hs
  by_cases h1 : n < 0
  · have HE := Lib.hid (show ordR n ls = ([], 1) by unfold ordR; rw [if_pos (.inl h1)])
    go_enter Try.func13, Try.ntmps13
    go_wp2
    go_ret2
    exact OrdV.nil HE.out ((Grew.refl w).alloc _)
  · by_cases h2 : 256 < n
    · have HE := Lib.hid (show ordR n ls = ([], 1) by unfold ordR; rw [if_pos (.inr h2)])
      go_enter Try.func13, Try.ntmps13
      go_wp2
      go_ret2
      exact OrdV.nil HE.out ((Grew.refl w).alloc _)
    · by_cases h3 : 256 < m
      · have HE := Lib.hid (show ordR n ls = ([], 2) by unfold ordR; rw [if_neg (by omega), if_pos (by rw [HS.out.1]; exact h3)])
        go_enter Try.func13, Try.ntmps13
        go_wp2
        go_ret2
        exact OrdV.nil HE.out ((Grew.refl w).alloc _)
      · obtain ⟨k, rfl⟩ := Int.eq_ofNat_of_zero_le (show 0 ≤ n by omega)
        have HO : Hid (ordR k ls = if badL k ls then (([] : List Int), (130 : Int)) else match ordK ls k k with | some os => (os, 0) | none => ([], 131)) := by
          unfold ordR; rw [if_neg (by omega), if_neg (by rw [HS.out.1]; exact h3), Int.toNat_natCast]; rfl
        have hmm := @run_makeMap Try.prog
        go_enter Try.func13, Try.ntmps13
        go_wp2_with fail
        refine (sources_ _ _ _ _ _ (HS.out.grew (((Grew.refl w).alloc _).alloc _)) (by omega)).mono ?_
        rintro e w1 ⟨r, rfl, him, hr, g1⟩
        have q1 : Blk w1 w.heap.size 3 #[.int .i64 k] := ((Blk.new w 3 #[.int .i64 k]).alloc _).grew g1
        have q2 : Blk w1 (w.heap.size + 1) 41 #[.func (.func 22) #[] #[]] := by
          have := Blk.new (w.alloc (.cells #[.int .i64 k] 3)) 41 #[.func (.func 22) #[] #[]]
          rw [World.size_alloc] at this
          exact this.grew g1
        have G1 := Lib.hid (Grew.trans (((Grew.refl w).alloc _).alloc _) g1)
        have HIM := Lib.hid him
        have Q1 := Lib.hid q1
        have Q2 := Lib.hid q2
        have hz1 : w.heap.size + 2 ≤ w1.heap.size := by have := g1.size; simpa using this
        clear him g1 q1 q2 hr
        by_cases hd : (mapOf ls).length = m
        · rw [decide_eq_true hd]
          have HD := Lib.hid hd
          clear hd
          go_wp2_with fail
          refine (every_ _ _ _ _ k _ _ _ (HS.out.grew (G1.out.alloc _)) (by omega) ((Q2.out.alloc _).cell 0) ((Q1.out.alloc _).cell 0) (by simp; omega) (by simp; omega) (by omega) (by omega)).mono ?_
          rintro e w2 ⟨rfl, g2⟩
          have HB : Hid (badL k ls = !ls.all (okL k)) := by unfold badL; rw [HD.out, HS.out.1]; simp [Hid]
          cases hall : ls.all (okL k) with
          | false =>
            have HE := Lib.hid (show ordR k ls = ([], 130) by rw [HO.out, HB.out, hall]; rfl)
            go_wp2
            go_ret2
            exact OrdV.nil HE.out ((G1.out.alloc _).trans g2)
          | true =>
            have HO2 : Hid (ordR k ls = match ordK ls k k with | some os => (os, 0) | none => (([] : List Int), (131 : Int))) := by rw [HO.out, HB.out, hall]; rfl
            have G2 := Lib.hid ((G1.out.alloc (.cells #[.map (some r)] 42)).trans g2)
            have q1 := ((Q1.out.alloc (.cells #[.map (some r)] 42)).grew g2)
            have q3 : Blk w2 w1.heap.size 42 #[.map (some r)] := (Blk.new w1 42 _).grew g2
            have him := (HIM.out.alloc (.cells #[.map (some r)] 42)).grew g2
            have hz2 : w1.heap.size + 1 ≤ w2.heap.size := by have := g2.size; simpa using this
            have hrr := imap_size him
            have hc1 := ((q1.alloc (.map #[] 0)).alloc (.cells #[.map (some w2.heap.size)] 47)).cell 0
            have NX0 : NX ((w2.alloc (.map #[] 0)).alloc (.cells #[.map (some w2.heap.size)] 47)) w.heap.size w1.heap.size (w2.heap.size + 1) r w2.heap.size k ls [] := by
              refine ⟨hc1, ((q3.alloc _).alloc _).cell 0, ?_, by simp; omega, by simp; omega, by simp, (him.alloc _).alloc _, (IMap.new w2).alloc _⟩
              have := (Blk.new (w2.alloc (.map #[] 0)) 47 #[.map (some w2.heap.size)]).cell 0
              rw [World.size_alloc] at this
              exact this
            have NX1 := Lib.hid NX0
            clear q1 q3 him NX0 hall HB HO
            obtain ⟨i0, hi, hz0, hz1', hz2'⟩ := info_parts Try.info3
            go_wp2_with fail
            go_loopw [4, 38] (fun v i wr => ∃ j : Nat, ∃ os : List Int, j ≤ k ∧ i = .int .i64 j ∧ Hid (ordK ls k j = some os) ∧ Hid (os.length = j) ∧ NX wr w.heap.size w1.heap.size (w2.heap.size + 1) r w2.heap.size k ls os ∧
              wr.ownsRow (w2.heap.size + 2) 3 1 v j (os.map (Value.int .i64)) ∧ Below w2.heap.size w2 wr ∧ w2.heap.size + 2 ≤ wr.heap.size) (fun _ i _ => k - (intOf i).toNat)
            case atStart => exact ⟨0, [], Nat.zero_le _, rfl, rfl, rfl, NX1.out, ⟨rfl, .inl ⟨rfl, rfl⟩⟩, ((Below.refl _ _).alloc (Nat.le_refl _) _).alloc (by simp) _, by simp⟩
            case round =>
              obtain ⟨j, os, hj, rfl, ho, hol, hnx, hown, hbl, hsz⟩ := hrel
              clear hc1
              by_cases hlt : j < k
              · have G2' := G2.out
                cases hnext : nextF ls os k with
                | none =>
                  have HK := Lib.hid (ordK_none ls k j os ho.out hnext (k - j - 1))
                  rw [show j + 1 + (k - j - 1) = k by omega] at HK
                  have HE := Lib.hid (show ordR k ls = ([], 131) by rw [HO2.out, HK.out])
                  go_wp2_with (go_at_call 26; refine (next_ _ _ _ _ _ _ _ _ _ hnx (by omega)).mono ?_; rw [hnext]; rintro e w5 ⟨rfl, g5⟩; unfold nextV)
                  go_ret2
                  exact OrdV.nil HE.out ((G2'.trans' hbl G2'.size).trans g5)
                | some p =>
                  obtain ⟨hnm, hpk⟩ := next_not_mem hnext
                  have HK := Lib.hid (ordK_some ls k j os p ho.out hnext)
                  have HNX := Lib.hid hnx
                  have HOWN := Lib.hid hown
                  clear hnx hown
                  go_wp2_with fail
                  refine (next_ _ _ _ _ _ _ _ _ _ HNX.out (by omega)).mono ?_
                  rw [hnext]
                  rintro e w5 ⟨rfl, g5⟩
                  unfold nextV
                  have hnx5 := HNX.out.grew g5
                  have hcl := hnx5.cl
                  obtain ⟨w6, hrun, hm6, hgr6, hsz6⟩ := run_put (P := Try.prog) hnx5.l 47 3 4 Try.underlying47 Try.underlying3 p (.bool true)
                  rw [mput_lm os p hnm] at hm6
                  have HN5 := Lib.hid hnx5
                  have HM6 := Lib.hid hm6
                  have HOW6 := Lib.hid (own_kept (own_grew HOWN.out g5) hgr6 (fun k e => by cases e; omega))
                  have hs5 := g5.size
                  have hs6 := hgr6.size
                  clear hnx5 hm6 hnext hnm hsz6
                  go_wp2_with (at_builtin; refine wpList_append_own _ rfl _ _ 27 rfl (w2.heap.size + 2) 3 i0 (.int .i64 0) 1 8 Try.underlying27 hi hz0 hz1' hz2' rfl (by decide) _ _ _ rfl (HOW6.out.alloc _) ⟨w6.heap.size, 0, none⟩ 1 1 [.int .i64 _] rfl rfl (cell_one_new _ _ _) (by simp [Value.oneCell']) (by unfold maxLen; omega) (by omega) (by simp; omega) ?_; intro v' w7 hown' hgrow _)
                  have hB : Below (w2.heap.size + 2) w6 w7 := ((Below.refl _ _).alloc (by omega) _).grown hgrow (by simp; omega) (own_ge HOW6.out)
                  have hN7 := HN5.out.step hgr6 HM6.out hB (by omega) (by omega) (by omega) (by omega) (by omega) (by omega) (by omega) (by omega) (by omega)
                  have hbl7 : Below w2.heap.size w2 w7 := (hbl.trans (g5.mono (by omega))).trans ((Below.grown (Below.refl _ _) hgr6 (by omega) (fun k e => by cases e; exact Nat.le_refl _)).trans (hB.mono (by omega)))
                  have hs7 := hB.size
                  go_roundw
                  case rel => exact ⟨j + 1, os ++ [(p : Int)], by omega, by go_num, HK, by rw [List.length_append, hol.out]; rfl, hN7, by rw [List.map_append]; exact hown', hbl7, by omega⟩
                  case measure => simp [intOf]; omega
              · have hjk : k = j := by omega
                have HE := Lib.hid (show ordR k ls = (os, 0) by rw [HO2.out]; have h := ho.out; rw [← hjk] at h; rw [h])
                clear hjk
                obtain ⟨A', c', rfl, hc', hsl⟩ := own_sl hown
                have HSL := Lib.hid hsl
                clear hown hsl hnx
                go_wp2
                go_ret2
                exact ⟨G2.out.trans' hbl G2.out.size, A', j, c', by rw [HE.out]; exact HSL.out, hc', by rw [HE.out]; rfl⟩
        · rw [decide_eq_false hd]
          have HE := Lib.hid (show ordR k ls = ([], 130) by rw [HO.out]; unfold badL; rw [HS.out.1, decide_eq_false hd]; rfl)
          clear hd
          go_wp2
          go_ret2
          exact OrdV.nil HE.out (G1.out.alloc _)

end Go.Proofs.Ytnihkdmdbmnniaa
