/- Regions inside a round of a range over a function, walked by the plain rules. -/
import Derived.Test.YtikoabajlibheaaRG
import Derived.Test.YtikoabajlibheaaRF
import Derived.OrdersIn
namespace Go.RF
open Go Go.RowKit

/-- The post of a region that ends in no panic. -/
def plainQ (Q : Exit → Act → World → Prop) : Exit → Act → World → Prop
  | .normal, a, w => Q .normal a w
  | _, _, _ => False

def noDefer (ops : List Oper) : Bool := ops.all fun o => match o.op with | .defer _ => false | _ => true

variable {P : Program} {ops : Array Oper} {Q : Exit → Act → World → Prop} {n : Nat}

theorem calls_in {F : Fence} (hF : ∃ ro, F = { Fence.wide with round := ro }) {f : FuncId} {args : Array Value} {w : World} {R : Ending → World → Prop} (h : Calls P f args w R) : CallsIn F n P f args w R := by
  obtain ⟨ro, rfl⟩ := hF
  exact (callsIn_wide (n := n)).2 h

theorem rows_in {F : Fence} (hF : ∃ ro, F = { Fence.wide with round := ro }) {row : String} {args : Array Value} {w : World} {R : Value → World → Prop} (h : Rows P row args w R) : RowsIn F n P row args w R := by
  obtain ⟨ro, rfl⟩ := hF
  intro c cs _
  obtain ⟨v, w', hR, hs⟩ := h c cs
  exact ⟨v, w', hR, stepsIn_wide.2 hs⟩

theorem op_in {F : Fence} (hF : ∃ ro, F = { Fence.wide with round := ro }) {o : Oper} (hd : ∀ c, o.op ≠ .defer c) {a : Act} {w : World} {K K' : Act → World → Prop}
    (hK : ∀ a w, K a w → K' a w) (h : o.wp P a w K (plainQ Q)) : o.wpIn F n P a w K' Q := by
  have hF' := hF
  obtain ⟨ro, rfl⟩ := hF
  refine ⟨fun _ _ => trivial, ?_⟩
  rw [Oper.semAt_eq _ _ _ hd]
  unfold Oper.wp at h
  have nol : ¬ LetsOut (plainQ Q) := by
    rintro ⟨a', w', h⟩
    exact h
  generalize (execOp a.eval o).run P w = r at *
  cases r with
  | ok x w' =>
    cases x <;> simp only [Oper.upon] at h <;> simp only [Oper.uponIn]
    case value v => exact hK _ _ h
    case skip => exact hK _ _ h
    case defer d => exact hK _ _ h
    case enter f args =>
      refine ⟨fun h => by simp [Fence.wide] at h, ?_⟩
      refine CallsIn.mono (calls_in hF' h) fun e w'' he => ?_
      cases e with
      | returned v => exact hK _ _ he
      | panicked c => exact he.elim
      | outgrown => exact (nol he).elim
    case row row args => exact ⟨fun h => by simp [Fence.wide] at h, RowsIn.mono (rows_in hF' h) fun v w'' he => hK _ _ he⟩
  | halt x w' =>
    cases x <;> simp only [Oper.upon] at h <;> simp only [Oper.uponIn]
    case panic u => exact h.elim

theorem wpOp_in {F : Fence} (hF : ∃ ro, F = { Fence.wide with round := ro }) (hd : noDefer ops.toList = true) {i : Nat} {a : Act} {w : World} {K K' : Act → World → Prop}
    (hK : ∀ a w, K a w → K' a w) (h : wpOp P ops (plainQ Q) i K a w) : wpOpIn F n P ops Q i K' a w := by
  unfold wpOp at h
  unfold wpOpIn
  have hF' := hF
  obtain ⟨ro, rfl⟩ := hF
  cases ho : ops[i]? with
  | none => rw [ho] at h; exact hK _ _ h
  | some o =>
    rw [ho] at h
    simp only at h ⊢
    have hdo : ∀ c, o.op ≠ .defer c := by
      intro c hc
      have := List.all_eq_true.1 hd o (Array.mem_toList_iff.2 (Array.mem_of_getElem? ho))
      rw [hc] at this
      cases this
    split
    · rename_i hw
      rw [if_pos hw] at h
      rcases h with h | ⟨_, ⟨a', w', h⟩⟩
      · exact op_in hF' hdo hK h
      · exact h.elim
    · rename_i hw
      rw [if_neg hw] at h
      exact ⟨fun _ _ => trivial, hK _ _ h⟩

theorem wpAny_in {F : Fence} (hF : ∃ ro, F = { Fence.wide with round := ro }) (hd : noDefer ops.toList = true) {md : Region.Mode} : ∀ (fuel : Nat) (listed : Array Bool) (a : Act) (w : World),
    wpAny P md ops (plainQ Q) fuel listed a w → wpAnyIn F n P md ops Q fuel listed a w
  | 0, _, _, _, h => h
  | fuel + 1, _, _, _, h => ⟨h.1, fun i hi => wpOp_in hF hd (fun a w h => wpAny_in hF hd fuel _ a w h) (h.2 i hi)⟩

theorem wpList_in {F : Fence} (hF : ∃ ro, F = { Fence.wide with round := ro }) : ∀ (l : List Oper) (k : Nat), (∀ j, l[j]? = ops[k + j]?) → noDefer ops.toList = true → ∀ (a : Act) (w : World),
    wpList P ops (plainQ Q) l a w → wpOpsIn F n P ops Q (List.range' k l.length) a w
  | [], _, _, _, _, _, h => h
  | o :: l, k, hl, hd, a, w, h => by
    have h0 : ops[k]? = some o := by simpa using (hl 0).symm
    rw [List.length_cons, List.range'_succ, wpOpsIn_cons]
    have hw : wpOp P ops (plainQ Q) k (wpList P ops (plainQ Q) l) a w := by unfold wpOp; simp only [h0]; exact h
    exact wpOp_in hF hd (fun a w h => wpList_in hF l (k + 1) (fun j => by have := hl (j + 1); simpa [Nat.add_assoc, Nat.add_comm 1 j] using this) hd a w h) hw

/-- A region that does not draw. -/
theorem region_in {F : Fence} (hF : ∃ ro, F = { Fence.wide with round := ro }) {id : Nat} {l : List Oper} {a : Act} {w : World} (hd : noDefer l = true) (h : wpList P l.toArray (plainQ Q) l a w) : (Code.region id l.toArray false).wpIn F n P Q a w := by
  refine wpIn_region ?_
  have := wpList_in (n := n) (ops := l.toArray) hF l 0 (by simp) (by simpa using hd) a w h
  rw [← List.range_eq_range'] at this
  simpa using this

/-- A region that draws. -/
theorem region_rg_in {F : Fence} (hF : ∃ ro, F = { Fence.wide with round := ro }) {id : Nat} {l : List Oper} {a : Act} {w : World} (hd : noDefer l = true) (m : Nat) (R : World → World → Prop) (Vs : List RG.VP) (hm : P.follows .mixedOrders = true)
    (hB : RG.checkB l m a.tmps.size = true) (hV : Vs.length = m)
    (hrf : R w.drew w.drew) (htr : ∀ a b c : World, R a b → R b c → R a c) (hst : RG.stables R w.drew Vs)
    (hob : RG.obls P l.toArray R w.drew a (l.take m) Vs 0 (l.take m) Vs)
    (hfin : ∀ w', R w.drew w' → RG.fin (fun a w => wpList P l.toArray (plainQ Q) (l.drop m) a w) w' (l.take m) Vs a) : (Code.region id l.toArray true).wpIn F n P Q a w := by
  have hc := RG.checked_of hB
  refine wpIn_region_any hm ?_
  refine wpAny_in hF (by simpa using hd) _ _ _ _ ?_
  refine RG.wpAny_rg (w0 := w.drew) (a0 := a) hc hV htr hst hob hfin _ _ (fun _ => undef) a w.drew ?_ (by simp)
  refine ⟨⟨by simp, fun j oj _ hl => (by rw [getD_replicate_false] at hl; cases hl), fun t _ ht => getD_in (by simpa using ht) (getD_replicate_false _ _)⟩, hrf, rfl, rfl, fun _ _ => rfl, ?_, ?_⟩
  · intro j o d _ _ hl
    rw [getD_replicate_false] at hl; cases hl
  · intro j V _ _ hl
    rw [getD_replicate_false] at hl; cases hl

#print axioms region_rg_in
#print axioms region_in
end Go.RF
