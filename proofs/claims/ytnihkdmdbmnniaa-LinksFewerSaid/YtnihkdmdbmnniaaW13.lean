/- ref.Order. -/
import Derived.Test.YtnihkdmdbmnniaaW12
set_option linter.unusedSimpArgs false
namespace Go.Proofs.Ytnihkdmdbmnniaa
open Go.RowKit

theorem next_first {ls : List Lk} {os : List Int} {n p : Nat} (h : nextF ls os n = some p) : ∀ q : Nat, q < p → rdy ls os q = false := by
  unfold nextF at h
  have := (List.find?_range_eq_some.1 h).2.2
  intro q hq
  simpa using this q hq

theorem ordK_take {ls : List Lk} {n : Nat} : ∀ (k : Nat) (os : List Int), ordK ls n k = some os → ∀ j, j ≤ k → ordK ls n j = some (os.take j)
  | 0, os, h, j, hj => by
    obtain rfl : j = 0 := by omega
    simp [ordK]
  | k + 1, os, h, j, hj => by
    rcases Nat.lt_or_ge k j with h' | h'
    · obtain rfl : j = k + 1 := by omega
      rw [h, List.take_of_length_le (by rw [(ordK_mem ls n _ os h).1]; exact Nat.le_refl _)]
    · simp only [ordK] at h
      cases h1 : ordK ls n k with
      | none => rw [h1] at h; cases h
      | some os0 =>
        rw [h1] at h
        dsimp only at h
        cases h2 : nextF ls os0 n with
        | none => rw [h2] at h; cases h
        | some p =>
          rw [h2] at h
          injection h with h
          subst h
          rw [ordK_take k os0 h1 j h', List.take_append_of_le_length (by rw [(ordK_mem ls n _ os0 h1).1]; exact h')]

theorem ordK_next {ls : List Lk} {n : Nat} {os : List Int} (h : ordK ls n n = some os) (j : Nat) (hj : j < n) : ∃ p : Nat, nextF ls (os.take j) n = some p ∧ os.take (j + 1) = os.take j ++ [(p : Int)] := by
  have h1 := ordK_take n os h j (by omega)
  have h2 := ordK_take n os h (j + 1) (by omega)
  simp only [ordK, h1] at h2
  cases h3 : nextF ls (os.take j) n with
  | none => rw [h3] at h2; cases h2
  | some p =>
    rw [h3] at h2
    injection h2 with h2
    exact ⟨p, rfl, h2.symm⟩

/-- What is listed. -/
def lstB (os : List Int) (n : Nat) : List Bool := (List.range n).map fun (p : Nat) => decide ((p : Int) ∈ os)
theorem lstB_length (os : List Int) (n : Nat) : (lstB os n).length = n := by simp [lstB]
theorem lstB_nil (n : Nat) : lstB [] n = List.replicate n false := by
  apply List.ext_getElem
  · simp [lstB]
  · intro i h1 h2
    simp [lstB]
theorem lstB_snoc (os : List Int) (n q : Nat) : lstB (os ++ [(q : Int)]) n = (lstB os n).set q true := by
  apply List.ext_getElem
  · simp [lstB]
  · intro i h1 h2
    simp only [lstB, List.getElem_map, List.getElem_range, List.getElem_set, List.mem_append, List.mem_singleton]
    by_cases e : q = i
    · subst e; simp
    · rw [if_neg e]
      have : ¬ (i : Int) = q := by omega
      simp [this]
theorem lstB_getD (os : List Int) (n p : Nat) (h : p < n) : (lstB os n).getD p false = decide ((p : Int) ∈ os) := by simp [lstB, List.getD, h]

theorem rdyB_eq {ls : List Lk} {os : List Int} {n p : Nat} (hp : p < n) (hok : ∀ k ∈ ls, 0 ≤ k.fr ∧ k.fr ≤ (n : Int) - 1) : rdyB (lstB os n) ls p = rdy ls os p := by
  unfold rdyB rdy
  rw [lstB_getD _ _ _ hp]
  cases hs : src ls p with
  | none => rfl
  | some x =>
    have := hok x (src_mem hs).1
    dsimp only
    rw [lstB_getD _ _ _ (by omega), Int.toNat_of_nonneg this.1]

def slLen : Value → Nat
  | .slice _ n _ => n
  | _ => 0

theorem own_set {w : World} {base : Nat} {e : TypeId} {size : Nat} {v : Value} {n : Nat} {xs : List Value} (h : w.ownsRow base e size v n xs) {g q : Nat} (hg : g < base) (u : Value) : (w.setCell ⟨g, q, none⟩ u).ownsRow base e size v n xs := by
  refine ⟨h.1, ?_⟩
  rcases h.2 with h1 | ⟨g', cap, cur, hv, hb, hh, r1, r2, r3, r4⟩
  · exact .inl h1
  · exact .inr ⟨g', cap, cur, hv, hb, (Below.heap_setCell w ⟨g, q, none⟩ u g' (by show g' ≠ g; omega)).trans hh, r1, r2, r3, r4⟩

set_option maxHeartbeats 1000000 in
theorem rorder_ (n : Int) (A : Option Addr) (m c : Nat) (ls : List Lk) (w : World) (hs : SlL w A m ls) :
    Calls Try.prog 14 #[.int .i64 n, .slice A m c] w (OrdV w n ls) := by
  have HS := Lib.hid hs
  clear hs
  go_enter Try.func14, Try.ntmps14
  go_wp2_with fail
  refine (rcheck_ _ _ _ _ _ _ HS.out).mono ?_
  rintro e w2 ⟨rfl, g2⟩
  by_cases hok : (ordR n ls).2 = 0
  · have ⟨o1, o2, o3, o4, o5⟩ := ordR_ok hok
    have ⟨b1, b2⟩ := badL_spec o4
    have hml : m ≤ 256 := by rw [← HS.out.1]; exact o3
    obtain ⟨k, rfl⟩ : ∃ k : Nat, n = k := ⟨n.toNat, by omega⟩
    rw [Int.toNat_natCast] at o5
    have HND := Lib.hid ((mapOf_len ls).2.1 b1)
    have HFR : Hid (∀ x ∈ ls, 0 ≤ x.fr ∧ x.fr ≤ (k : Int) - 1) := fun x hx => (okL_spec (b2 x hx)).1
    have HOR : Hid (ordR k ls = ((ordR k ls).1, 0)) := Prod.ext rfl hok
    rw [hok]
    generalize (ordR k ls).1 = os at *
    have HO := Lib.hid o5
    have HOL := Lib.hid (ordK_mem ls k k os o5).1
    have HSL := Lib.hid (HS.out.grew g2)
    clear hok o1 o3 o4 o5 b1 b2
    obtain ⟨i0, hi, hz0, hz1, hz2⟩ := info_parts Try.info4
    obtain ⟨i3, hj, hy0, hy1, hy2⟩ := info_parts Try.info3
    go_wp2_with (at_make; refine wpList_make_full _ rfl _ _ 35 rfl w2.heap.size 4 i0 (.bool false) 1 Try.underlying35 hi hz0 hz1 .i64 .i64 k k k rfl rfl rfl rfl (by rw [hz2]; omega) (by unfold maxLen; omega) (Nat.le_refl _) ?_; intro w3 hown3 hgrow3)
    have hb0 : Blk w3 w2.heap.size 4 ((lstB [] k).map Value.bool).toArray := by
      have := own_blk hown3
      rw [Nat.mul_one, show (Value.bool false).cells = #[Value.bool false] from rfl, toList_madeCells_one] at this
      rw [lstB_nil]
      simpa using this
    have hbl0 : Below w2.heap.size w2 w3 := (Below.refl _ _).grown hgrow3 (Nat.le_refl _) (fun k e => by cases e)
    have hs3 := hb0.lt
    clear hown3 hgrow3
    go_loopw [8] (fun v wr => ∃ j : Nat, j ≤ k ∧ wr.ownsRow (w2.heap.size + 1) 3 1 v j ((os.take j).map (Value.int .i64)) ∧ Blk wr w2.heap.size 4 ((lstB (os.take j) k).map Value.bool).toArray ∧ Below w2.heap.size w2 wr ∧ w2.heap.size + 1 ≤ wr.heap.size) (fun v _ => k - slLen v)
    case atStart => exact ⟨0, Nat.zero_le _, ⟨rfl, .inl ⟨rfl, rfl⟩⟩, hb0, hbl0, hs3⟩
    case round =>
      obtain ⟨j, hj2, hown, hblk, hbl, hsz⟩ := hrel
      clear hb0 hbl0 hs3
      obtain ⟨A', c', rfl, hc', hsl⟩ := own_sl hown
      have HSLR := Lib.hid hsl
      have HOWN := Lib.hid hown
      have HBK := Lib.hid hblk
      clear hown hsl hblk
      by_cases hlt : j < k
      · obtain ⟨p, hp, hpt⟩ := ordK_next HO.out j hlt
        have hpk := (next_not_mem hp).2
        have HPT := Lib.hid hpt
        have HRD := Lib.hid (next_rdy hp)
        have HRF := Lib.hid (next_first hp)
        clear hp hpt
        go_wp2
        rename World => wx
        go_loopw [9] (fun i wr => wr = wx ∧ ∃ q : Nat, q ≤ p ∧ i = .int .i64 q) (fun i _ => p - (intOf i).toNat)
        case atStart => exact ⟨rfl, 0, Nat.zero_le _, rfl⟩
        case round =>
          obtain ⟨rfl, q, hq, rfl⟩ := hrel
          go_wp2_with fail
          refine (ready_ _ _ _ _ _ _ _ q _ (HSL.out.grew hbl) hml HBK.out (lstB_length _ _) (by omega) (by omega) HFR.out HND.out).mono ?_
          rintro e w5 ⟨rfl, rfl⟩
          rw [rdyB_eq (by omega) HFR.out]
          by_cases hqp : q < p
          · rw [HRF.out q hqp]
            go_wp2
            go_roundw
            case rel => exact ⟨trivial, q + 1, by omega, by go_num⟩
            case measure => simp [intOf]; omega
          · obtain rfl : q = p := by omega
            rw [HRD.out]
            have hfg := HBK.out.frozen q
            have hcg := HBK.out.cell q
            rw [cellOfB _ _ (by rw [lstB_length]; omega)] at hcg
            have hbs := HBK.out.set q (.bool true)
            rw [set_mapB, ← lstB_snoc, ← HPT.out] at hbs
            have HBS := Lib.hid hbs
            have HOW6 := Lib.hid (own_set HOWN.out (q := q) (g := w2.heap.size) (by omega) (.bool true))
            clear hbs
            have HCN := Lib.hid (cell_one_new (wr.setCell ⟨w2.heap.size, q, none⟩ (.bool true)) (.int .i64 q) 3)
            rw [setCell_size] at HCN
            go_wp2_with (at_builtin; refine wpList_append_own _ rfl _ _ 27 rfl (w2.heap.size + 1) 3 i3 (.int .i64 0) 1 8 Try.underlying27 hj hy0 hy1 hy2 rfl (by decide) _ _ _ rfl (HOW6.out.alloc _) ⟨wr.heap.size, 0, none⟩ 1 1 [.int .i64 _] rfl rfl HCN.out (by simp [Value.oneCell']) (by unfold maxLen; omega) (by omega) (by simp; omega) ?_; intro v' w7 hown' hgrow _)
            have hB : Below (w2.heap.size + 1) (wr.setCell ⟨w2.heap.size, q, none⟩ (.bool true)) w7 := ((Below.refl _ _).alloc (by rw [setCell_size]; omega) _).grown hgrow (by simp; omega) (own_ge HOW6.out)
            have hb7 := HBS.out.below hB (by omega)
            have hbl7 : Below w2.heap.size w2 w7 := (Below.setCell hbl (Nat.le_refl _) _).trans (hB.mono (by omega))
            have hs7 := hB.size
            rw [setCell_size] at hs7
            have hpt := HPT.out
            rw [← List.map_singleton (f := Value.int .i64), ← List.map_append, ← hpt] at hown'
            obtain ⟨A7, c7, hv7, _, _⟩ := own_sl hown'
            go_roundw
            case rel => exact ⟨j + 1, by omega, hown', hb7, hbl7, by omega⟩
            case measure => rw [hv7]; simp [slLen]; omega
      · obtain rfl : j = k := by omega
        have HT : Hid (os.take j = os) := List.take_of_length_le (by rw [HOL.out]; exact Nat.le_refl _)
        rw [HT.out] at HSLR
        go_wp2
        go_ret2
        exact ⟨g2.trans' hbl g2.size, A', j, c', by rw [HOR.out]; exact HSLR.out, hc', by rw [HOR.out]; rfl⟩
  · have hf := ordR_fst hok
    have HE : Hid (ordR n ls = ([], (ordR n ls).2)) := Prod.ext hf rfl
    have hne : ((ordR n ls).2 != 0) = true := bne_iff_ne.2 hok
    generalize (ordR n ls).2 = er at *
    clear hok hf
    go_wp2
    go_ret2
    exact OrdV.nil HE.out g2
end Go.Proofs.Ytnihkdmdbmnniaa
