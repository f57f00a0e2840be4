/- Contracts of every and sources. -/
import Derived.Test.YtnihkdmdbmnniaaW1
namespace Go.Proofs.Ytnihkdmdbmnniaa
open Go.RowKit

theorem take_snocL (xs : List Lk) (k : Nat) (h : k < xs.length) : xs.take (k + 1) = xs.take k ++ [xs.getD k Lk.z] := by
  rw [List.take_succ_eq_append_getElem h]; simp [List.getD, h]

set_option maxHeartbeats 1000000 in
theorem every_ (A : Option Addr) (n c : Nat) (ls : List Lk) (p : Int) (Bw Bn : Nat) (w : World) (hs : SlL w A n ls) (hn : n ≤ 256) (h1 : w.cell? ⟨Bw, 0, none⟩ = some (.func (.func 22) #[] #[])) (h2 : w.cell? ⟨Bn, 0, none⟩ = some (.int .i64 p)) (b1 : Bw < w.heap.size) (b2 : Bn < w.heap.size)
    (n0 : 0 ≤ p) (n1 : p ≤ 256) :
    Calls Try.prog 24 #[.slice A n c, .func (.func 25) #[] #[.pointer (some ⟨Bw, 0, none⟩), .pointer (some ⟨Bn, 0, none⟩)]] w fun e w' => e = .returned (.bool (ls.all (okL p))) ∧ Grew w w' := by
  have HS := Lib.hid hs
  have H1 := Lib.hid h1
  have H2 := Lib.hid h2
  clear hs h1 h2
  go_enter Try.func24, Try.ntmps24
  go_wp2
  go_loopw [9] (fun i wr => ∃ k : Nat, k ≤ n ∧ i = .int .i64 k ∧ Hid ((ls.take k).all (okL p) = true) ∧ Grew w wr) (fun i _ => n - (intOf i).toNat)
  case atStart => exact ⟨0, Nat.zero_le _, rfl, rfl, Grew.refl _⟩
  case round =>
    obtain ⟨k, hk, rfl, ha, hg⟩ := hrel
    by_cases hlt : k < n
    · obtain ⟨b, off, rfl, hb, hcell⟩ := (HS.out.grew hg).2 (by omega)
      obtain ⟨c0, c1, c2, c3, c4⟩ := hcell k hlt
      have HA : Hid ((ls.take (k + 1)).all (okL p) = okL p (ls.getD k Lk.z)) := by rw [take_snocL ls k (by rw [HS.out.1]; exact hlt), List.all_append, ha.out]; simp [Hid]
      have HF : Hid (okL p (ls.getD k Lk.z) = false → ls.all (okL p) = false) := by
        intro h
        rw [List.all_eq_false]
        have hkl : k < ls.length := by rw [HS.out.1]; exact hlt
        refine ⟨ls.getD k Lk.z, by simp [List.getD, hkl], ?_⟩
        rw [h]; simp
      clear hcell
      generalize ls.getD k Lk.z = x at *
      cases hx : okL p x
      · have HE := Lib.hid (HF.out hx)
        go_wp2_with (go_at_call 25; refine (okL_ x p Bw Bn _ (((hg.alloc _).cell b1).trans H1.out) (((hg.alloc _).cell b2).trans H2.out) (Nat.lt_of_lt_of_le b1 (hg.alloc _).size) (Nat.lt_of_lt_of_le b2 (hg.alloc _).size) n0 n1).mono ?_; rw [hx]; rintro e w1 ⟨rfl, g1⟩)
        go_ret
        exact ⟨by rw [HE.out]; rfl, (hg.alloc _).trans g1⟩
      · go_wp2_with (go_at_call 25; refine (okL_ x p Bw Bn _ (((hg.alloc _).cell b1).trans H1.out) (((hg.alloc _).cell b2).trans H2.out) (Nat.lt_of_lt_of_le b1 (hg.alloc _).size) (Nat.lt_of_lt_of_le b2 (hg.alloc _).size) n0 n1).mono ?_; rw [hx]; rintro e w1 ⟨rfl, g1⟩)
        go_roundw
        case rel => exact ⟨k + 1, by omega, by go_num, HA.out.trans hx, (hg.alloc _).trans g1⟩
        case measure => simp [intOf]; omega
    · go_wp2
      go_ret
      exact ⟨by rw [← ha.out, List.take_of_length_le (by rw [HS.out.1]; omega)]; rfl, hg⟩

/-- The links by their targets. -/
def mapOf (ls : List Lk) : List (Int × Value) := ls.foldl (fun m x => mput m x.to x.v) []

theorem mapOf_snoc (ls : List Lk) (x : Lk) : mapOf (ls ++ [x]) = mput (mapOf ls) x.to x.v := by simp [mapOf]

theorem mput_length (m : List (Int × Value)) (k : Int) (v : Value) : (mput m k v).length ≤ m.length + 1 := by
  induction m with
  | nil => simp [mput]
  | cons p m ih =>
    obtain ⟨k', v'⟩ := p
    simp only [mput]
    split <;> simp <;> omega

theorem mapOf_length (ls : List Lk) : (mapOf ls).length ≤ ls.length := by
  have h : ∀ (ls : List Lk) (m : List (Int × Value)), (ls.foldl (fun m x => mput m x.to x.v) m).length ≤ m.length + ls.length := by
    intro ls
    induction ls with
    | nil => intro m; simp
    | cons x ls ih =>
      intro m
      have h1 := ih (mput m x.to x.v)
      have h2 := mput_length m x.to x.v
      simp only [List.foldl_cons, List.length_cons]
      omega
  simpa [mapOf] using h ls []

theorem run_len_imap {P : Program} {w : World} {r : Nat} {m : List (Int × Value)} (h : IMap w r m) (t : TypeId) (ty K E : TypeId) (hT : P.underlying t = some (.map K E)) :
    (Builtin.len_ #[t] ty #[.map (some r)]).run P w = .ok (.int .i64 m.length) w := by
  obtain ⟨es, c, hr, he⟩ := h
  have hl : es.size = m.length := by have := congrArg List.length he; simpa using this
  have hg : (getObj r).run P w = .ok (.map es c) w := by simp [getObj, Sem.run, hr]
  have hu : (underlying t).run P w = .ok (.map K E) w := run_underlying hT w
  simp [Builtin.len_, Sem.run_bind, hu, hg, hl, goInt]

theorem natbeq (a b : Nat) : ((a : Int) == (b : Int)) = decide (a = b) := by
  by_cases h : a = b
  · subst h; simp
  · have : ¬ ((a : Int) = (b : Int)) := by omega
    simp [h]; omega

set_option maxHeartbeats 1000000 in
theorem sources_ (A : Option Addr) (n c : Nat) (ls : List Lk) (w : World) (hs : SlL w A n ls) (hn : n ≤ 256) :
    Calls Try.prog 23 #[.slice A n c] w fun e w' => ∃ r, e = .returned (.tuple #[.map (some r), .bool (decide ((mapOf ls).length = n))]) ∧ IMap w' r (mapOf ls) ∧ w.heap.size ≤ r ∧ Grew w w' := by
  have HS := Lib.hid hs
  clear hs
  have hmm := @run_makeMap Try.prog
  go_enter Try.func23, Try.ntmps23
  go_wp2
  go_loopw [9] (fun i wr => ∃ k : Nat, k ≤ n ∧ i = .int .i64 k ∧ IMap wr w.heap.size (mapOf (ls.take k)) ∧ Grew w wr) (fun i _ => n - (intOf i).toNat)
  case atStart => exact ⟨0, Nat.zero_le _, rfl, IMap.new w, (Grew.refl w).alloc _⟩
  case round =>
    obtain ⟨k, hk, rfl, him, hg⟩ := hrel
    by_cases hlt : k < n
    · obtain ⟨b, off, rfl, hb, hcell⟩ := (HS.out.grew hg).2 (by omega)
      obtain ⟨c0, c1, c2, c3, c4⟩ := hcell k hlt
      have HA : Hid (mapOf (ls.take (k + 1)) = mput (mapOf (ls.take k)) (ls.getD k Lk.z).to (ls.getD k Lk.z).v) := by rw [take_snocL ls k (by rw [HS.out.1]; exact hlt)]; exact mapOf_snoc _ _
      clear hcell
      generalize ls.getD k Lk.z = x at *
      obtain ⟨w2, hrun, hm2, hgr2, hsz2⟩ := run_put (P := Try.prog) (him.alloc (.cells #[.int .i64 x.fr, .int .i64 x.to, .int .i64 x.num, .int .i64 x.den, .int .i64 x.add] 34)) 42 3 34 Try.underlying42 Try.underlying3 x.to x.v
      have HM2 := Lib.hid hm2
      have HIM := Lib.hid him
      unfold Lk.v at hrun
      clear hm2 him
      go_wp2
      go_roundw
      case rel => exact ⟨k + 1, by omega, by go_num, by rw [HA.out]; exact HM2.out, Below.grown (hg.alloc _) hgr2 (hg.alloc _).size (fun j e => by cases e; exact Nat.le_refl _)⟩
      case measure => simp [intOf]; omega
    · have hrun := run_len_imap (P := Try.prog) him 42 3 3 34 Try.underlying42
      have HIM := Lib.hid him
      have HT : Hid (ls.take k = ls) := List.take_of_length_le (by rw [HS.out.1]; omega)
      rw [HT.out] at HIM hrun
      clear him
      go_wp2
      go_ret2
      exact ⟨w.heap.size, ret2 rfl (congrArg Value.bool (natbeq _ _)), HIM.out, Nat.le_refl _, hg⟩

end Go.Proofs.Ytnihkdmdbmnniaa
