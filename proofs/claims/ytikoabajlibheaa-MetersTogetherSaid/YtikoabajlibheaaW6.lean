/- The iterator over windows. -/
import Derived.Test.YtikoabajlibheaaW5
import Derived.Test.YtikoabajlibheaaRH
import Derived.Shelf.Abstract
import Derived.Shelf.RegionOpen
import Derived.OwnWalkIn
import Derived.TacticsInMore
import Derived.LoopNIn
import Derived.LoopIn
namespace Go.Proofs.Ytikoabajlibheaa
open Go.RowKit Go.Shelf
attribute [local go_sem] Oper.semAt_some

/-- A position of a window. -/
abbrev Pos (n s : Nat) := { p : Nat // p + s ≤ n }

def encW (b off s c : Nat) {n : Nat} (p : Pos n s) : Array Value := #[.slice (some ⟨b, off + p.1, none⟩) s (c - p.1)]

def lenAt (B : Nat) (w : World) : Nat := match w.cell? ⟨B, 0, none⟩ with | some (.slice _ n _) => n | _ => 0

/-- The first positions. -/
def posK (n s h k : Nat) (ps : List (Pos n s)) : Prop := ps.map (·.1) = (List.range k).map (· * h)

theorem posK_snoc {n s h k : Nat} {ps : List (Pos n s)} (hp : posK n s h k ps) (x : Pos n s) (hx : x.1 = k * h) : posK n s h (k + 1) (ps ++ [x]) := by
  unfold posK at *
  rw [List.map_append, hp, List.range_succ, List.map_append]
  simp [hx]

/-- What the cell of the data holds after k rounds. -/
def DataAt (W : World) (Bd b off n c s p : Nat) : Prop :=
  ∃ A' c', W.cell? ⟨Bd, 0, none⟩ = some (.slice A' (n - p) c') ∧ n - p ≤ c' ∧ (p + s ≤ n → A' = some ⟨b, off + p, none⟩ ∧ c' = c - p)

set_option maxHeartbeats 1000000 in
theorem windows1 (b off n c s h Bd Bn Bh : Nat) (hs : 1 ≤ s) (_hs2 : s ≤ 65536) (hh : 1 ≤ h) (hh2 : h ≤ 16777216) (hc : n ≤ c) (hdn : Bd ≠ Bn) (hdh : Bd ≠ Bh) :
    RF.Seq Try.prog 28 #[.pointer (some ⟨Bd, 0, none⟩), .pointer (some ⟨Bn, 0, none⟩), .pointer (some ⟨Bh, 0, none⟩)] (encW b off s c (n := n))
      (fun X Y => ∃ v, Y = X.setCell ⟨Bd, 0, none⟩ v) (fun X Y => ∀ k, (k = Bd ∨ k = Bn ∨ k = Bh) → Y.heap[k]? = X.heap[k]?)
      (fun ps => posK n s h (cnt n s h) ps) (fun _ => True) (cnt n s h)
      (fun W => DataAt W Bd b off n c s 0 ∧ W.frozen? ⟨Bd, 0, none⟩ = false ∧ W.cell? ⟨Bn, 0, none⟩ = some (.int .i64 s) ∧ W.cell? ⟨Bh, 0, none⟩ = some (.int .i64 h)) := by
  rintro l J Jx W ⟨hd, hz, hcn, hch⟩ hJ hJx hY h0
  have HC := Lib.hid (fun k => cnt_iff n s h k hh)
  refine callsIn_of_wp Try.func28 rfl trivial ?_ rfl
  simp only [Try.ntmps28, List.size_toArray, List.length_cons, List.length_nil, Nat.reduceAdd, Nat.reduceSub, Array.replicate_succ, Array.replicate_zero, List.push_toArray, List.append_toArray, List.nil_append, List.cons_append]
  gi_wp2
  gi_loopw [5] (fun _ wr => ∃ k p ps, Hid (p = k * h) ∧ k ≤ cnt n s h ∧ posK n s h k ps ∧ DataAt wr Bd b off n c s p ∧ wr.frozen? ⟨Bd, 0, none⟩ = false ∧ wr.cell? ⟨Bn, 0, none⟩ = some (.int .i64 s) ∧ wr.cell? ⟨Bh, 0, none⟩ = some (.int .i64 h) ∧ J ps wr)
    (fun _ wr => lenAt Bd wr)
  case atStart => exact ⟨0, 0, [], by simp [Hid], Nat.zero_le _, rfl, hd, hz, hcn, hch, h0⟩
  case round =>
    obtain ⟨k, p, ps, hp, hk, hps, ⟨A', c', hcell, hc', hA⟩, hfz, hn1, hh1, hJs⟩ := hrel
    clear hd hz hcn hch h0
    by_cases hlt : p + s ≤ n
    · obtain ⟨rfl, rfl⟩ := hA hlt
      obtain ⟨fn, tmps, assign, body, hy, hR⟩ := hY ps ⟨p, hlt⟩ wr hJs (by have := congrArg List.length hps; simp at this; rw [this]; exact (HC.out k).2 (by rw [← hp.out]; exact hlt))
      unfold encW at hy
      dsimp only at hy
      clear hJs
      have HLEN : Hid (lenAt Bd wr = n - p) := by unfold lenAt; rw [hcell]; rfl
      gi_wp2
      refine ⟨rfl, hR.mono ?_⟩
      rintro e W3 (⟨rfl, hJ3, hk3⟩ | ⟨rfl, hJx3⟩)
      · have c1 := (World.cell?_of_block (a := ⟨Bd, 0, none⟩) (hk3 Bd (.inl rfl))).trans hcell
        have c2 := (World.cell?_of_block (a := ⟨Bn, 0, none⟩) (hk3 Bn (.inr (.inl rfl)))).trans hn1
        have c3 := (World.cell?_of_block (a := ⟨Bh, 0, none⟩) (hk3 Bh (.inr (.inr rfl)))).trans hh1
        have c4 := (World.frozen?_of_block (a := ⟨Bd, 0, none⟩) (hk3 Bd (.inl rfl))).trans hfz
        have HP : Hid (p + h = (k + 1) * h) := by rw [hp.out, Nat.succ_mul]; rfl
        have HPS := Lib.hid (posK_snoc hps ⟨p, hlt⟩ hp.out)
        have hkc : k + 1 ≤ cnt n s h := (HC.out k).2 (by rw [← hp.out]; exact hlt)
        have HJ := Lib.hid hJ3
        clear hcell hn1 hh1 hfz hJ3 hk3 hps hy hR
        by_cases hmin : h ≤ n - p
        · gi_wp2
          go_roundw
          case rel => 
            refine ⟨k + 1, p + h, ps ++ [⟨p, hlt⟩], HP, hkc, HPS.out, ⟨_, _, (setCell_self W3 Bd 0 _ _ c1).trans (by rw [Nat.sub_add_eq]), by omega, fun hx => ⟨?_, by omega⟩⟩, (World.frozen?_setCell _ _ _ _).trans c4, (World.cell?_setCell_other _ _ _ _ (by simp)).trans c2, (World.cell?_setCell_other _ _ _ _ (by simp)).trans c3, hJ _ _ _ HJ.out ⟨_, rfl⟩⟩
            rw [if_neg (by omega), Nat.add_assoc]
          case measure =>
            rw [HLEN.out]
            unfold lenAt
            rw [setCell_self W3 Bd 0 _ _ c1]
            show n - p - h < n - p
            omega
        · gi_wp2
          go_roundw
          case rel => 
            refine ⟨k + 1, p + h, ps ++ [⟨p, hlt⟩], HP, hkc, HPS.out, ⟨_, _, (setCell_self W3 Bd 0 _ _ c1).trans (by rw [show n - (p + h) = 0 by omega]), by omega, fun hx => by omega⟩, (World.frozen?_setCell _ _ _ _).trans c4, (World.cell?_setCell_other _ _ _ _ (by simp)).trans c2, (World.cell?_setCell_other _ _ _ _ (by simp)).trans c3, hJ _ _ _ HJ.out ⟨_, rfl⟩⟩
          case measure =>
            rw [HLEN.out]
            unfold lenAt
            rw [setCell_self W3 Bd 0 _ _ c1]
            show 0 < n - p
            omega
      · gi_wp2
        refine bodyPost_ret (results_none rfl _ _ _) rfl ?_
        exact ⟨⟨_, rfl⟩, .inr ⟨_, trivial, hJx3⟩⟩
    · clear hA
      have hkc : k = cnt n s h := by
        have : ¬ k < cnt n s h := fun h' => hlt (by rw [hp.out]; exact (HC.out k).1 h')
        omega
      subst hkc
      have HPS := Lib.hid hps
      have HJ := Lib.hid hJs
      clear hps hJs
      gi_wp2
      go_end0
      exact ⟨⟨_, rfl⟩, .inl ⟨ps, HPS.out, HJ.out⟩⟩

theorem windowsF (A : Option Addr) (n c : Nat) (s h : Int) (w : World) :
    Calls Try.prog 21 #[.slice A n c, .int .i64 s, .int .i64 h] w fun e w' =>
      e = .returned (.func (.func 28) #[] #[.pointer (some ⟨w.heap.size, 0, none⟩), .pointer (some ⟨w.heap.size + 1, 0, none⟩), .pointer (some ⟨w.heap.size + 2, 0, none⟩)]) ∧
      w' = ((w.alloc (.cells #[.slice A n c] 22)).alloc (.cells #[.int .i64 s] 3)).alloc (.cells #[.int .i64 h] 3) := by
  go_enter Try.func21, Try.ntmps21
  go_wp2
  go_ret
  exact ⟨rfl, rfl⟩

end Go.Proofs.Ytikoabajlibheaa
