/- A law for a range over a function whose iterator keeps state of its own in cells. -/
import Derived.RangeFuncNested
import Derived.RangeFuncBound
import Derived.RangeFuncCalls
import Derived.RangeFuncLeaves
namespace Go.RF
open Go Go.RowKit

/-- An iterator's contract: its own steps between two rounds are told by A; a round that goes on keeps Kp. -/
def Seq {α : Type} (P : Program) (g : Nat) (lb : Array Value) (encs : α → Array Value) (A Kp : World → World → Prop) (S Sp : List α → Prop) (N : Nat) (W0 : World → Prop) : Prop :=
  ∀ (l : Nat) (J Jx : List α → World → Prop) (W : World), W0 W → (∀ s X Y, J s X → A X Y → J s Y) → (∀ s X Y, Jx s X → A X Y → Jx s Y) →
    (∀ pre x W1, J pre W1 → pre.length < N → YieldAt Fence.wide 0 P l (encs x) W1 fun e W' =>
      (e = .returned (.bool true) ∧ J (pre ++ [x]) W' ∧ Kp W1 W') ∨ (e = .returned (.bool false) ∧ Jx (pre ++ [x]) W')) →
    J [] W →
    CallsIn Fence.wide 0 P g (#[.func (.yield l) #[] #[]] ++ lb) W fun e W' => (∃ v, e = .returned v) ∧ ((∃ xs, S xs ∧ J xs W') ∨ (∃ pre, Sp pre ∧ Jx pre W'))

/-- What is no cells and lies at or beyond B lies as it lay. -/
def Keeps (B : Nat) (W W' : World) : Prop := ∀ (k : Nat) (o : Obj), B ≤ k → W.heap[k]? = some o → o.isCells = false → W'.heap[k]? = some o

theorem Keeps.refl (B : Nat) (W : World) : Keeps B W W := fun _ _ _ h _ => h
theorem Keeps.trans {B : Nat} {X Y Z : World} (h : Keeps B X Y) (k : Keeps B Y Z) : Keeps B X Z := fun i o hB hi ho => k i o hB (h i o hB hi ho) ho
theorem Keeps.alloc {B : Nat} {X Y : World} (h : Keeps B X Y) (o : Obj) : Keeps B X (Y.alloc o) := fun i o' hB hi ho =>
  have := h i o' hB hi ho
  (Below.heap_alloc Y o i (Array.getElem?_eq_some_iff.1 this).1).trans this
theorem Keeps.setCell {B : Nat} {X Y : World} (h : Keeps B X Y) (a : Addr) (v : Value) : Keeps B X (Y.setCell a v) :=
  h.trans fun i o _ hi ho => (KeepsOthers.setCell Y a v).same i o hi ho
theorem Keeps.drew {B : Nat} {X Y : World} (h : Keeps B X Y) : Keeps B X Y.drew := h
theorem Keeps.below {B n : Nat} {X Y Z : World} (h : Keeps B X Y) (hb : Below n Y Z) (hn : Y.heap.size ≤ n) : Keeps B X Z := fun i o hB hi ho =>
  have := h i o hB hi ho
  (hb.block i (Nat.lt_of_lt_of_le (Array.getElem?_eq_some_iff.1 this).1 hn)).trans this
theorem Keeps.grown {B : Nat} {X Y Z : World} {row : Option Nat} (h : Keeps B X Y) (hg : Y.grownBy Z row) (hr : ∀ (j : Nat) (o : Obj), row = some j → Y.heap[j]? = some o → o.isCells = true) : Keeps B X Z :=
  h.trans fun i o _ hi ho => (KeepsOthers.of_grownBy hg hr).same i o hi ho

/-- How the body of a round may be left. -/
def bodyQ {α : Type} (B : Nat) (Kp : World → World → Prop) (I : List α → World → Prop) (Ix : Code → List α → World → Prop) (xs : List α) (W : World) : Exit → Act → World → Prop
  | .normal, _, W' => Keeps B W W' ∧ Kp W W' ∧ I xs W'
  | .ret, _, W' => Keeps B W W' ∧ Ix .ret xs W'
  | .exit id, _, W' => Keeps B W W' ∧ Ix (.exit id) xs W'
  | .goto t, _, W' => Keeps B W W' ∧ Ix (.goto t) xs W'
  | _, _, _ => False

/-- The invariant abides the turn of a block that is no cells and lies at or beyond B. -/
def Abides {β : Type} (B : Nat) (I : β → World → Prop) : Prop := ∀ s W l o o', I s W → B ≤ l → W.heap[l]? = some o → o.isCells = false → I s (W.putObj l o')

theorem range_law {P : Program} {α : Type} {g : Operand} {ps : Array Tmp} {assign body : Code} {Q : Exit → Act → World → Prop} {a : Act} {w : World}
    {gf : Nat} {lb : Array Value} (hg : a.eval g = .func (.func gf) #[] lb) (eg : ∀ args w, (callFunc gf args).run P w = .ok (.enter gf args) w)
    {encs : α → Array Value} {A Kp : World → World → Prop} {S Sp : List α → Prop} {N : Nat} {W0 : World → Prop} (hseq : Seq P gf lb encs A Kp S Sp N W0)
    (h0W : ∀ o o', W0 ((w.alloc o).alloc o')) (hA : ∀ X Y, A X Y → Keeps w.heap.size X Y)
    (hKt : ∀ {X Y Z : World}, Kp X Y → Kp Y Z → Kp X Z) (hKb : ∀ (W : World) (l : Nat) (o' : Obj), w.heap.size ≤ l → Kp W (W.putObj l o')) (hps : ∀ x, (encs x).size = ps.size)
    (I : List α → World → Prop) (Ix : Code → List α → World → Prop) (hI : Abides w.heap.size I) (hIx : ∀ c, Abides w.heap.size (Ix c))
    (hIA : ∀ s X Y, I s X → A X Y → I s Y) (hIxA : ∀ c s X Y, Ix c s X → A X Y → Ix c s Y) (h0 : ∀ o o', I [] ((w.alloc o).alloc o'))
    (hround : ∀ (l : Nat) (pre : List α) (x : α) (W : World), I pre W → pre.length < N → assign.wpIn (Fence.wide.inRound l) 0 P (Exit.then (fun a1 W1 => W1 = W ∧ ∀ W2, I pre W2 → w.heap.size < W2.heap.size →
      body.wpIn (Fence.wide.inRound l) 0 P (bodyQ w.heap.size Kp I Ix (pre ++ [x]) W2) a1 W2) (fun _ _ _ => False)) { tmps := (ps.zip (encs x)).foldl (fun t (p, v) => t.setIfInBounds p v) a.tmps, defers := [] } W)
    (hdone : ∀ (D : Nat) (xs : List α) (W : World), w.heap.size ≤ D → S xs → I xs W → W.heap[D]? = some (.deferred (some [])) → Q .normal { a with defers := { target := .collected D, args := #[] } :: a.defers } W)
    (hstop : ∀ (D : Nat) (c : Code) (pre : List α) (W : World), w.heap.size ≤ D → Sp pre → Ix c pre W → W.heap[D]? = some (.deferred (some [])) → c.wpIn Fence.wide 0 P Q { a with defers := { target := .collected D, args := #[] } :: a.defers } W) :
    (Code.rangeFunc g ps assign body).wpIn Fence.wide 0 P Q a w := by
  refine wpIn_rangeFunc fun fn hfn => ?_
  obtain ⟨rc, hrc⟩ : ∃ rc : LoopState → Option Code → Loop, rc = fun st pe => { state := st, pending := pe, fn, tmps := a.tmps, params := ps, assign, body, defers := w.heap.size } := ⟨_, rfl⟩
  have hbk : ∀ (X Y : World) (k : Nat) (o : Obj), A X Y → w.heap.size ≤ k → X.heap[k]? = some o → o.isCells = false → Y.heap[k]? = some o := fun X Y k o hXY hk hX ho => hA X Y hXY k o hk hX ho
  refine ⟨w.heap.size + 1, [{ target := .collected w.heap.size, args := #[] }], (w.alloc (.deferred (some []))).alloc (.loop (rc .ready none)), { target := .fn (.func gf) lb, args := #[.func (.yield (w.heap.size + 1)) #[] #[]] }, ((w.alloc (.deferred (some []))).alloc (.loop (rc .ready none))), gf,
    #[.func (.yield (w.heap.size + 1)) #[] #[]] ++ lb, ((w.alloc (.deferred (some []))).alloc (.loop (rc .ready none))), ?_, ?_, fun _ _ => trivial, ?_, (fun h => by simp [Fence.wide] at h), ?_⟩
  · rw [hrc]; exact run_enterLoop_outer _ _ _ _ _
  · simp only [resolve, hg]
    simp [go_sem]
  · simp [invoke, go_sem, eg]
  have e1 : ((w.alloc (.deferred (some []))).alloc (.loop (rc .ready none))).heap[w.heap.size + 1]? = some (.loop (rc .ready none)) := by
    have := World.alloc_heap_new (w.alloc (.deferred (some []))) (.loop (rc .ready none))
    rwa [World.size_alloc] at this
  have e2 : ((w.alloc (.deferred (some []))).alloc (.loop (rc .ready none))).heap[w.heap.size]? = some (.deferred (some [])) :=
    (Below.heap_alloc _ _ _ (by simp)).trans (World.alloc_heap_new w _)
  refine (hseq (w.heap.size + 1)
    (fun pre W => I pre W ∧ W.heap[w.heap.size + 1]? = some (.loop (rc .ready none)) ∧ W.heap[w.heap.size]? = some (.deferred (some [])))
    (fun pre W => ∃ c, Ix c pre W ∧ W.heap[w.heap.size + 1]? = some (.loop (rc .done (some c))) ∧ W.heap[w.heap.size]? = some (.deferred (some [])))
    _ (h0W _ _) (fun s X Y ⟨h1, h2, h3⟩ hXY => ⟨hIA s X Y h1 hXY, hbk X Y _ _ hXY (by omega) h2 rfl, hbk X Y _ _ hXY (Nat.le_refl _) h3 rfl⟩)
    (fun s X Y ⟨c, h1, h2, h3⟩ hXY => ⟨c, hIxA c s X Y h1 hXY, hbk X Y _ _ hXY (by omega) h2 rfl, hbk X Y _ _ hXY (Nat.le_refl _) h3 rfl⟩)
    ?_ ⟨h0 _ _, e1, e2⟩).mono ?_
  · rintro pre x W ⟨hi, hl, hk⟩ hlen
    have hlt : w.heap.size + 1 < W.heap.size := (Array.getElem?_eq_some_iff.1 hl).1
    have hy := run_yield (P := P) (args := encs x) hl (by rw [hrc]; exact hps x)
    rw [hrc] at hy
    refine ⟨fn, _, assign, body, hy, roundIn_of_wpIn hfn (wpIn_mono (hround (w.heap.size + 1) pre x W hi hlen) ?_)⟩
    rintro e a1 W1 hr
    cases e <;> simp only [Exit.then] at hr ⊢
    obtain ⟨rfl, hr⟩ := hr
    refine ⟨_, run_beginRound hl (by rw [hrc]), ?_⟩
    generalize hb : (Obj.loop { rc .ready none with state := .busy }) = busy
    have hbc : busy.isCells = false := by rw [← hb]; rfl
    have q1 : (W1.putObj (w.heap.size + 1) busy).heap[w.heap.size + 1]? = some busy := World.putObj_heap_same hlt
    have q2 : (W1.putObj (w.heap.size + 1) busy).heap[w.heap.size]? = some (.deferred (some [])) := (World.putObj_heap_other (by omega)).trans hk
    refine wpIn_mono (hr _ (hI pre W1 _ _ busy hi (by omega) hl rfl) (by simp; omega)) ?_
    have leave : ∀ (jump : Option Code) (W3 : World), Keeps w.heap.size (W1.putObj (w.heap.size + 1) busy) W3 → ∃ W4, (Instr.endRound (w.heap.size + 1) jump).run P W3 = .ok (.bool jump.isNone) W4 ∧
        W4 = W3.putObj (w.heap.size + 1) (.loop (rc (if jump.isNone then .ready else .done) jump)) ∧ W3.heap[w.heap.size + 1]? = some busy ∧
        W4.heap[w.heap.size + 1]? = some (.loop (rc (if jump.isNone then .ready else .done) jump)) ∧ W4.heap[w.heap.size]? = some (.deferred (some [])) := fun jump W3 hk3 => by
      have r1 := hk3 _ _ (by omega) q1 hbc
      have r2 := hk3 _ _ (Nat.le_refl _) q2 rfl
      have r3 : W3.heap[w.heap.size + 1]? = some (Obj.loop { rc .ready none with state := .busy }) := by rw [hb]; exact r1
      have r4 := run_endRound (P := P) jump r3
      refine ⟨_, r4, by rw [hrc], r1, ?_, (World.putObj_heap_other (by omega)).trans r2⟩
      rw [World.putObj_heap_same (Array.getElem?_eq_some_iff.1 r1).1, hrc]
    rintro e a3 W3 hp
    cases e with
    | normal =>
      obtain ⟨c1, c2, c3⟩ := hp
      obtain ⟨W4, r, e4, r1, r2, r3⟩ := leave none W3 c1
      exact ⟨_, W4, r, .inl ⟨rfl, ⟨by rw [e4]; exact hI _ _ _ _ _ c3 (by omega) r1 hbc, r2, r3⟩, by rw [e4]; exact hKt (hKt (hKb _ _ _ (by omega)) c2) (hKb _ _ _ (by omega))⟩⟩
    | ret =>
      obtain ⟨c1, c3⟩ := hp
      obtain ⟨W4, r, e4, r1, r2, r3⟩ := leave (some .ret) W3 c1
      exact ⟨_, W4, r, .inr ⟨rfl, .ret, by rw [e4]; exact hIx _ _ _ _ _ _ c3 (by omega) r1 hbc, r2, r3⟩⟩
    | exit id =>
      obtain ⟨c1, c3⟩ := hp
      obtain ⟨W4, r, e4, r1, r2, r3⟩ := leave (some (.exit id)) W3 c1
      exact ⟨_, W4, r, .inr ⟨rfl, .exit id, by rw [e4]; exact hIx _ _ _ _ _ _ c3 (by omega) r1 hbc, r2, r3⟩⟩
    | goto t =>
      obtain ⟨c1, c3⟩ := hp
      obtain ⟨W4, r, e4, r1, r2, r3⟩ := leave (some (.goto t)) W3 c1
      exact ⟨_, W4, r, .inr ⟨rfl, .goto t, by rw [e4]; exact hIx _ _ _ _ _ _ c3 (by omega) r1 hbc, r2, r3⟩⟩
    | panic ch => exact hp.elim
    | outgrown => exact hp.elim
  · rintro e W2 ⟨⟨v, rfl⟩, (⟨xs, hS, hi, hl, hk⟩ | ⟨pre, hSp, c, hi, hl, hk⟩)⟩
    · have r := run_endLoop (P := P) hl (by rw [hrc]; simp)
      rw [hrc] at r
      exact ⟨none, _, r, hdone _ xs _ (Nat.le_refl _) hS (hI _ _ _ _ _ hi (by omega) hl rfl) ((World.putObj_heap_other (by omega)).trans hk)⟩
    · have r := run_endLoop (P := P) hl (by rw [hrc]; simp)
      rw [hrc] at r
      exact ⟨some c, _, r, hstop _ c pre _ (Nat.le_refl _) hSp (hIx c _ _ _ _ _ hi (by omega) hl rfl) ((World.putObj_heap_other (by omega)).trans hk)⟩

#print axioms range_law
end Go.RF
