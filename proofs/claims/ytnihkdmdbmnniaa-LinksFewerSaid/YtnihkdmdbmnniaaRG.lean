/- A rule for a region that draws its order: each operation is shown once, in whatever world of a class it comes up. -/
import Derived.StillTail
import Derived.Orders
namespace Go.RG
open Go

abbrev VP := Value → World → Prop

/-- How a single operation may end: it has put a value into its slot. -/
def opQ (o : Oper) (a : Act) (K : VP) : Exit → Act → World → Prop
  | .normal, a', w' => ∃ v, a' = a.put o.dst v ∧ K v w'
  | _, _, _ => False

def waits (o : Oper) (j : Nat) : Bool := o.after.toList.any fun e => Region.binds .any e && e.on == j

/-- What is owed of an operation: the values of the operations that it waits for are known. -/
def pre (P : Program) (ops : Array Oper) (o : Oper) (R : World → World → Prop) (V : VP) (w : World) : Nat → List Oper → List VP → Act → Prop
  | j, oj :: l, Vj :: Vs, a => match waits o j with
    | true => ∀ v, Vj v w → pre P ops o R V w (j + 1) l Vs (a.put oj.dst v)
    | false => ∀ v, pre P ops o R V w (j + 1) l Vs (a.put oj.dst v)
  | _, _, _, a => wpList P ops (opQ o a (fun v w' => V v w' ∧ R w w')) [o] a w

/-- What is owed of each operation. -/
def obls (P : Program) (ops : Array Oper) (R : World → World → Prop) (w0 : World) (a0 : Act) (all : List Oper) (allV : List VP) : Nat → List Oper → List VP → Prop
  | i, o :: l, V :: Vs => (∀ w, R w0 w → pre P ops o R V w 0 (all.take i) allV a0) ∧ obls P ops R w0 a0 all allV (i + 1) l Vs
  | _, _, _ => True

/-- What is owed behind the operations. -/
def fin (F : Act → World → Prop) (w : World) : List Oper → List VP → Act → Prop
  | o :: l, V :: Vs, a => ∀ v, V v w → fin F w l Vs (a.put o.dst v)
  | _, _, a => F a w

def stables (R : World → World → Prop) (w0 : World) : List VP → Prop
  | [] => True
  | V :: Vs => (∀ v w w', R w0 w → V v w → R w w' → V v w') ∧ stables R w0 Vs

def mk (n m : Nat) : Array Bool := (List.replicate n true ++ List.replicate m false).toArray

/-- What is asked of the region's text. -/
def checkB (l : List Oper) (n N : Nat) : Bool :=
  Region.noSelect l.toArray && decide (n ≤ l.length) &&
  (decide (n = l.length) || (decide (n < l.length) && Region.sinkB .any l.toArray n && Region.chainB .any l.toArray n)) &&
  Region.seqB .any l.toArray (l.length - n) n (mk n (l.length - n)) &&
  ((l.take n).zipIdx.all fun (o, i) =>
    (o.after.toList.all fun e => !Region.binds .any e || decide (e.on < i)) &&
    (match o.dst with | some d => decide (d < N) | none => true) &&
    ((l.take n).zipIdx.all fun (o', j) =>
      (match o'.dst with
       | some d => (decide (i = j) || o.dst != some d) && (!(o.looksAt l.toArray).contains d || (decide (j < i) && waits o j) || (decide (i < j) && waits o' i))
       | none => true)))

/-- The act in which the first k operations have been given these values. -/
def puts (vals : Nat → Value) : Nat → List Oper → Act → Act
  | _, [], a => a
  | i, o :: l, a => puts vals (i + 1) l (a.put o.dst (vals i))

theorem waits_iff {o : Oper} {j : Nat} : waits o j = true ↔ ∃ e ∈ o.after, Region.binds .any e = true ∧ e.on = j := by
  unfold waits
  rw [List.any_eq_true]
  constructor
  · rintro ⟨e, he, h⟩
    rw [Bool.and_eq_true, beq_iff_eq] at h
    exact ⟨e, by simpa using he, h⟩
  · rintro ⟨e, he, h⟩
    exact ⟨e, by simpa using he, by rw [Bool.and_eq_true, beq_iff_eq]; exact h⟩

theorem pre_spec {P : Program} {ops : Array Oper} {o : Oper} {R : World → World → Prop} {V : VP} {w : World} (vals : Nat → Value) :
    ∀ (l : List Oper) (j : Nat) (Vs : List VP) (a : Act), l.length ≤ Vs.length → pre P ops o R V w j l Vs a →
      (∀ (k : Nat) (Vk : VP), k < l.length → Vs[k]? = some Vk → waits o (j + k) = true → Vk (vals (j + k)) w) →
      wpList P ops (opQ o (puts vals j l a) (fun v w' => V v w' ∧ R w w')) [o] (puts vals j l a) w := by
  intro l
  induction l with
  | nil =>
    intro j Vs a _ h _
    cases Vs <;> exact h
  | cons oj l ih =>
    intro j Vs a hl h hv
    cases Vs with
    | nil => simp at hl
    | cons Vj Vs =>
      have hv' : ∀ k Vk, k < l.length → Vs[k]? = some Vk → waits o (j + 1 + k) = true → Vk (vals (j + 1 + k)) w := fun k Vk hk hV hw => by
        have := hv (k + 1) Vk (by simp; omega) (by simpa using hV)
        rw [show j + (k + 1) = j + 1 + k by omega] at this
        exact this hw
      simp only [pre] at h
      cases hw : waits o j with
      | true =>
        rw [hw] at h
        exact ih (j + 1) Vs _ (by simpa using hl) (h (vals j) (hv 0 Vj (by simp) rfl (by simpa using hw))) hv'
      | false =>
        rw [hw] at h
        exact ih (j + 1) Vs _ (by simpa using hl) (h (vals j)) hv'

theorem obls_spec {P : Program} {ops : Array Oper} {R : World → World → Prop} {w0 : World} {a0 : Act} {all : List Oper} {allV : List VP} :
    ∀ (l : List Oper) (Vs : List VP) (i : Nat), l.length = Vs.length → obls P ops R w0 a0 all allV i l Vs →
      ∀ (k : Nat) (o : Oper) (V : VP), l[k]? = some o → Vs[k]? = some V → ∀ w, R w0 w → pre P ops o R V w 0 (all.take (i + k)) allV a0 := by
  intro l
  induction l with
  | nil => intro Vs i _ _ k o V hk; simp at hk
  | cons o l ih =>
    intro Vs i hl h k o' V' hk hV
    cases Vs with
    | nil => simp at hl
    | cons V Vs =>
      obtain ⟨h1, h2⟩ := h
      cases k with
      | zero =>
        simp at hk hV
        subst hk hV
        exact h1
      | succ k =>
        rw [show i + (k + 1) = i + 1 + k by omega]
        exact ih Vs (i + 1) (by simpa using hl) h2 k o' V' (by simpa using hk) (by simpa using hV)

theorem fin_spec {F : Act → World → Prop} {w : World} (vals : Nat → Value) : ∀ (l : List Oper) (Vs : List VP) (i : Nat) (a : Act), l.length = Vs.length → fin F w l Vs a →
    (∀ (k : Nat) (Vk : VP), Vs[k]? = some Vk → Vk (vals (i + k)) w) → F (puts vals i l a) w := by
  intro l
  induction l with
  | nil =>
    intro Vs i a hl h _
    cases Vs with
    | nil => exact h
    | cons V Vs => simp at hl
  | cons o l ih =>
    intro Vs i a hl h hv
    cases Vs with
    | nil => simp at hl
    | cons V Vs =>
      refine ih Vs (i + 1) _ (by simpa using hl) (h (vals i) (hv 0 V rfl)) fun k Vk hk => ?_
      have := hv (k + 1) Vk (by simpa using hk)
      rwa [show i + (k + 1) = i + 1 + k by omega] at this

theorem stables_spec {R : World → World → Prop} {w0 : World} : ∀ (Vs : List VP), stables R w0 Vs → ∀ (k : Nat) (V : VP), Vs[k]? = some V → ∀ v w w', R w0 w → V v w → R w w' → V v w'
  | [], _, k, V, h => by simp at h
  | V0 :: Vs, hs, k, V, h => by
    cases k with
    | zero => simp at h; subst h; exact hs.1
    | succ k => exact stables_spec Vs hs.2 k V (by simpa using h)

theorem put_size (a : Act) (d : Option Tmp) (v : Value) : (a.put d v).tmps.size = a.tmps.size := by
  cases d <;> simp [Act.put]
theorem put_defers (a : Act) (d : Option Tmp) (v : Value) : (a.put d v).defers = a.defers := by
  cases d <;> simp [Act.put]
theorem put_other (a : Act) (d : Option Tmp) (v : Value) (t : Nat) (h : d ≠ some t) : (a.put d v).tmps[t]? = a.tmps[t]? := by
  cases d with
  | none => rfl
  | some d =>
    have : d ≠ t := fun e => h (by rw [e])
    simp [Act.put, Array.getElem?_setIfInBounds_ne this]
theorem put_same (a : Act) (d : Nat) (v : Value) (h : d < a.tmps.size) : (a.put (some d) v).tmps[d]? = some v := by
  simp [Act.put, h]

theorem puts_size (vals : Nat → Value) : ∀ (l : List Oper) (i : Nat) (a : Act), (puts vals i l a).tmps.size = a.tmps.size
  | [], _, _ => rfl
  | o :: l, i, a => by rw [puts, puts_size vals l, put_size]
theorem puts_defers (vals : Nat → Value) : ∀ (l : List Oper) (i : Nat) (a : Act), (puts vals i l a).defers = a.defers
  | [], _, _ => rfl
  | o :: l, i, a => by rw [puts, puts_defers vals l, put_defers]
theorem puts_other (vals : Nat → Value) (t : Nat) : ∀ (l : List Oper) (i : Nat) (a : Act), (∀ o ∈ l, o.dst ≠ some t) → (puts vals i l a).tmps[t]? = a.tmps[t]?
  | [], _, _, _ => rfl
  | o :: l, i, a, h => by
    rw [puts, puts_other vals t l (i + 1) _ (fun o' ho => h o' (by simp [ho])), put_other _ _ _ _ (h o (by simp))]
theorem puts_same (vals : Nat → Value) (d : Nat) : ∀ (l : List Oper) (i : Nat) (a : Act), d < a.tmps.size → ∀ (j : Nat) (o : Oper), l[j]? = some o → o.dst = some d →
    (∀ (j' : Nat) (o' : Oper), l[j']? = some o' → o'.dst = some d → j' = j) → (puts vals i l a).tmps[d]? = some (vals (i + j))
  | [], _, _, _, j, o, h, _, _ => by simp at h
  | o0 :: l, i, a, hd, j, o, h, ho, hu => by
    rw [puts]
    cases j with
    | zero =>
      simp at h
      subst h
      rw [puts_other vals d l (i + 1) _ ?_]
      · rw [ho, put_same _ _ _ hd]; rfl
      · intro o' ho' he
        obtain ⟨k, hk⟩ := List.getElem?_of_mem ho'
        have := hu (k + 1) o' (by simpa using hk) he
        omega
    | succ j =>
      have := puts_same vals d l (i + 1) (a.put o0.dst (vals i)) (by rw [put_size]; exact hd) j o (by simpa using h) ho (fun j' o' h' he => by
        have := hu (j' + 1) o' (by simpa using h') he
        omega)
      rw [this, show i + 1 + j = i + (j + 1) by omega]

theorem eval_of {a b : Act} {t : Nat} (h : a.tmps[t]? = b.tmps[t]?) : a.eval (.tmp t) = b.eval (.tmp t) := by
  simp [Act.eval, h]

/-- Two acts that agree on what an operation looks at. -/
def Agree (ops : Array Oper) (o : Oper) (a b : Act) : Prop := ∀ t ∈ o.looksAt ops, a.tmps[t]? = b.tmps[t]?

theorem Agree.exec {ops : Array Oper} {o : Oper} {a b : Act} (hs : ∀ cs b, o.op ≠ .select cs b) (h : Agree ops o a b) : execOp a.eval o = execOp b.eval o :=
  execOp_congr o hs fun x hx => by
    cases x with
    | tmp t => exact eval_of (h t (List.mem_append_left _ (List.mem_filterMap.2 ⟨.tmp t, by simpa using hx, rfl⟩)))
    | _ => rfl
theorem Agree.wanted {ops : Array Oper} {o : Oper} {a b : Act} (h : Agree ops o a b) : Region.wanted o (yielded ops a.tmps) = Region.wanted o (yielded ops b.tmps) := by
  unfold Region.wanted
  cases hg : o.guard with
  | none => rfl
  | some gw =>
    obtain ⟨g, want⟩ := gw
    have hy : yielded ops a.tmps g = yielded ops b.tmps g := by
      unfold yielded
      cases ht : (ops[g]?).bind (·.dst) with
      | none => rfl
      | some t =>
        have := h t (by simp [Oper.looksAt, hg, ht])
        simp [this]
    simp only [hy]

/-- An operation that is shown in one act is shown in another that agrees with it on what it looks at. -/
theorem wpOp_of {P : Program} {ops : Array Oper} {o : Oper} {i : Nat} {a b : Act} {w : World} {V : VP} {K : Act → World → Prop} {Q : Exit → Act → World → Prop}
    (ho : ops[i]? = some o) (hs : ∀ cs b, o.op ≠ .select cs b) (hd : ∀ d, o.dst = some d → d < b.tmps.size) (h : Agree ops o a b)
    (hb : wpList P ops (opQ o b V) [o] b w) (hK : ∀ v w', V v w' → K (a.put o.dst v) w') : wpOp P ops Q i K a w := by
  have fin : ∀ v w', wpList P ops (opQ o b V) [] (b.put o.dst v) w' → K (a.put o.dst v) w' := by
    rintro v w' ⟨v', he, hV⟩
    have hv := hK v' w' hV
    cases hdd : o.dst with
    | none => rw [hdd] at hv; exact hv
    | some d =>
      rw [hdd] at he hv
      have hlt := hd d hdd
      have e1 := put_same b d v hlt
      have e2 := put_same b d v' hlt
      rw [he, e2] at e1
      injection e1 with e1
      rw [← e1]; exact hv
  have nol : ¬ LetsOut (opQ o b V) := by
    rintro ⟨a', w', h⟩
    exact h
  unfold wpOp
  simp only [ho]
  simp only [wpList] at hb
  rw [h.wanted]
  split
  · rename_i hw
    rw [if_pos hw] at hb
    rcases hb with hb | ⟨_, hb⟩
    · refine .inl ?_
      unfold Oper.wp at hb ⊢
      rw [h.exec hs]
      generalize (execOp b.eval o).run P w = r at *
      cases r with
      | ok x w' =>
        cases x <;> simp only [Oper.upon] at hb ⊢
        case value v => exact fin v w' hb
        case skip => exact fin _ w' hb
        case defer dd =>
          obtain ⟨v', he, _⟩ := hb
          have := congrArg Act.defers he
          rw [put_defers, put_defers] at this
          have := congrArg List.length this
          simp at this
        case enter f args =>
          refine Calls.mono hb fun e w'' he => ?_
          cases e with
          | returned v => exact fin v w'' he
          | panicked c => exact he.elim
          | outgrown => exact (nol he).elim
        case row row args => exact Rows.mono hb fun v w'' he => fin v w'' he
      | halt x w' =>
        cases x <;> simp only [Oper.upon] at hb ⊢
        case panic u => exact hb.elim
    · exact (nol hb).elim
  · rename_i hw
    rw [if_neg hw] at hb
    exact fin _ w hb

structure Inv (l : List Oper) (n : Nat) (Vs : List VP) (R : World → World → Prop) (w0 : World) (a0 : Act) (listed : Array Bool) (vals : Nat → Value) (a : Act) (w : World) : Prop where
  head : HeadInv .any l.toArray n listed
  rel : R w0 w
  defers : a.defers = a0.defers
  size : a.tmps.size = a0.tmps.size
  other : ∀ t, (∀ (j : Nat) (o : Oper), j < n → l[j]? = some o → listed.getD j false = true → o.dst ≠ some t) → a.tmps[t]? = a0.tmps[t]?
  same : ∀ (j : Nat) (o : Oper) (d : Nat), j < n → l[j]? = some o → listed.getD j false = true → o.dst = some d → a.tmps[d]? = some (vals j)
  vals : ∀ (j : Nat) (V : VP), j < n → Vs[j]? = some V → listed.getD j false = true → V (vals j) w

structure Checked (l : List Oper) (n N : Nat) : Prop where
  sel : Region.noSelect l.toArray = true
  le : n ≤ l.length
  tail : n = l.length ∨ (n < l.length ∧ Region.sinkB .any l.toArray n = true ∧ Region.chainB .any l.toArray n = true)
  seq : Region.seqB .any l.toArray (l.length - n) n (mk n (l.length - n)) = true
  back : ∀ (i : Nat) (o : Oper), i < n → l[i]? = some o → ∀ j, waits o j = true → j < i
  bound : ∀ (i : Nat) (o : Oper) (d : Nat), i < n → l[i]? = some o → o.dst = some d → d < N
  apart : ∀ (i j : Nat) (o o' : Oper) (d : Nat), i < n → j < n → l[i]? = some o → l[j]? = some o' → o.dst = some d → o'.dst = some d → i = j
  reads : ∀ (i j : Nat) (o o' : Oper) (d : Nat), i < n → j < n → l[i]? = some o → l[j]? = some o' → o'.dst = some d → d ∈ o.looksAt l.toArray → (j < i ∧ waits o j = true) ∨ (i < j ∧ waits o' i = true)

theorem mem_zipIdx {l : List Oper} {n i : Nat} {o : Oper} (hi : i < n) (h : l[i]? = some o) : (o, i) ∈ (l.take n).zipIdx := by
  rw [List.mem_zipIdx_iff_getElem?]
  simp [hi, h]

theorem checked_of {l : List Oper} {n N : Nat} (h : checkB l n N = true) : Checked l n N := by
  unfold checkB at h
  simp only [Bool.and_eq_true, decide_eq_true_eq, Bool.or_eq_true] at h
  obtain ⟨⟨⟨⟨h1, h2⟩, h3⟩, h4⟩, h5⟩ := h
  rw [List.all_eq_true] at h5
  have h6 := fun (i : Nat) (o : Oper) (hi : i < n) (ho : l[i]? = some o) => h5 (o, i) (mem_zipIdx hi ho)
  simp only [Bool.and_eq_true] at h6
  refine ⟨h1, h2, ?_, h4, ?_, ?_, ?_, ?_⟩
  · rcases h3 with h | ⟨⟨a, b⟩, c⟩
    · exact .inl h
    · exact .inr ⟨a, b, c⟩
  · intro i o hi ho j hw
    obtain ⟨e, he, hb, rfl⟩ := waits_iff.1 hw
    have := List.all_eq_true.1 (h6 i o hi ho).1.1 e (by simpa using he)
    simpa [hb] using this
  · intro i o d hi ho hd
    have := (h6 i o hi ho).1.2
    rw [hd] at this
    simpa using this
  · intro i j o o' d hi hj ho ho' hd hd'
    have := List.all_eq_true.1 (h6 i o hi ho).2 (o', j) (mem_zipIdx hj ho')
    simp only [hd', Bool.and_eq_true, Bool.or_eq_true, decide_eq_true_eq, hd] at this
    rcases this.1 with h | h
    · exact h
    · simp at h
  · intro i j o o' d hi hj ho ho' hd' hm
    have := List.all_eq_true.1 (h6 i o hi ho).2 (o', j) (mem_zipIdx hj ho')
    simp only [hd', Bool.and_eq_true, Bool.or_eq_true, decide_eq_true_eq] at this
    rcases this.2 with (h | h) | h
    · simp [hm] at h
    · exact .inl h
    · exact .inr h

theorem count_set_list (l : List Bool) (i : Nat) (hi : i < l.length) (hf : l[i] = false) : (l.set i true).count false + 1 = l.count false := by
  have : 0 < l.count false := List.count_pos_iff.2 (hf ▸ List.getElem_mem _)
  rw [List.count_set hi, hf]
  simp only [beq_self_eq_true, if_true]
  simp
  omega

theorem count_set_false (listed : Array Bool) (i : Nat) (h : listed.getD i true = false) : (listed.setIfInBounds i true).toList.count false + 1 = listed.toList.count false := by
  have hi : i < listed.size := by
    rcases Nat.lt_or_ge i listed.size with h' | h'
    · exact h'
    · simp [Array.getElem?_eq_none h'] at h
  have hf : listed.toList[i]'(by simpa using hi) = false := by simpa [hi] using h
  rw [Array.toList_setIfInBounds]
  exact count_set_list _ _ _ hf

theorem mk_lt (n m i : Nat) (h : i < n) : (mk n m)[i]? = some true := by
  unfold mk
  rw [List.getElem?_toArray, List.getElem?_append_left (by simpa using h)]; simp [h]
theorem mk_ge (n m i : Nat) (h : n ≤ i) (h2 : i < n + m) : (mk n m)[i]? = some false := by
  unfold mk
  rw [List.getElem?_toArray, List.getElem?_append_right (by simpa using h)]
  rw [List.getElem?_replicate, if_pos (by simp; omega)]

theorem mk_of_all {listed : Array Bool} {n m : Nat} (hs : listed.size = n + m) (h1 : ∀ j, j < n → listed.getD j false = true) (h2 : ∀ t, n ≤ t → t < n + m → listed.getD t true = false) : listed = mk n m := by
  apply Array.ext_getElem?
  intro i
  rcases Nat.lt_or_ge i (n + m) with hi | hi
  · have hi1 : i < listed.size := by omega
    rcases Nat.lt_or_ge i n with h | h
    · have := h1 i h
      simp [hi1] at this
      rw [mk_lt n m i h, Array.getElem?_eq_getElem hi1, this]
    · have := h2 i h hi
      simp [hi1] at this
      rw [mk_ge n m i h hi, Array.getElem?_eq_getElem hi1, this]
  · rw [Array.getElem?_eq_none (by omega), Array.getElem?_eq_none (by simp [mk]; omega)]

theorem exists_least (p : Nat → Prop) [DecidablePred p] : ∀ (n : Nat), (∃ j, j < n ∧ p j) → ∃ j, j < n ∧ p j ∧ ∀ k, k < j → ¬ p k
  | 0, ⟨j, hj, _⟩ => by omega
  | n + 1, h => by
    by_cases hn : ∃ j, j < n ∧ p j
    · obtain ⟨j, hj, hp, hm⟩ := exists_least p n hn
      exact ⟨j, by omega, hp, hm⟩
    · obtain ⟨j, hj, hp⟩ := h
      have : j = n := by
        rcases Nat.lt_or_ge j n with h' | h'
        · exact absurd ⟨j, h', hp⟩ hn
        · omega
      subst this
      exact ⟨j, by omega, hp, fun k hk hpk => hn ⟨k, hk, hpk⟩⟩

theorem act_ext {a b : Act} (hs : a.tmps.size = b.tmps.size) (ht : ∀ t : Nat, a.tmps[t]? = b.tmps[t]?) (hd : a.defers = b.defers) : a = b := by
  obtain ⟨ta, da⟩ := a
  obtain ⟨tb, db⟩ := b
  have : ta = tb := Array.ext hs fun i h1 h2 => by
    have := ht i
    simpa [h1, h2] using this
  subst this
  simp at hd
  subst hd
  rfl

section
variable {P : Program} {l : List Oper} {n : Nat} {Q : Exit → Act → World → Prop} {Vs : List VP} {R : World → World → Prop} {w0 : World} {a0 : Act}

theorem Inv.done {listed : Array Bool} {vals : Nat → Value} {a : Act} {w : World} (hc : Checked l n a0.tmps.size) (inv : Inv l n Vs R w0 a0 listed vals a w) (hall : ∀ j, j < n → listed.getD j false = true) :
    a = puts vals 0 (l.take n) a0 := by
  have ge : ∀ {j : Nat} {o : Oper}, (l.take n)[j]? = some o → j < n ∧ l[j]? = some o := fun {j o} h => by
    have hj : j < n := by
      rcases Nat.lt_or_ge j n with h' | h'
      · exact h'
      · rw [List.getElem?_eq_none (by simp; omega)] at h; cases h
    exact ⟨hj, by simpa [hj] using h⟩
  refine act_ext (by rw [puts_size, inv.size]) (fun t => ?_) (by rw [puts_defers, inv.defers])
  by_cases h : ∃ (j : Nat) (o : Oper), j < n ∧ l[j]? = some o ∧ o.dst = some t
  · obtain ⟨j, o, hj, ho, hd⟩ := h
    rw [inv.same j o t hj ho (hall j hj) hd,
      puts_same vals t (l.take n) 0 a0 (hc.bound j o t hj ho hd) j o (by simpa [hj] using ho) hd (fun j' o' ho' hd' => by
        have ⟨hj', ho''⟩ := ge ho'
        exact hc.apart j' j o' o t hj' hj ho'' ho hd' hd), Nat.zero_add]
  · rw [inv.other t (fun j o hj ho _ hd => h ⟨j, o, hj, ho, hd⟩), puts_other]
    intro o ho hd
    obtain ⟨j, hj⟩ := List.getElem?_of_mem ho
    have ⟨hj1, hj2⟩ := ge hj
    exact h ⟨j, o, hj1, hj2, hd⟩

theorem Inv.agree {listed : Array Bool} {vals : Nat → Value} {a : Act} {w : World} (hc : Checked l n a0.tmps.size) (inv : Inv l n Vs R w0 a0 listed vals a w)
    {i : Nat} {o : Oper} (hi : i < n) (ho : l[i]? = some o) (hun : listed.getD i true = false) (hw : ∀ j, waits o j = true → listed.getD j false = true) :
    Agree l.toArray o a (puts vals 0 ((l.take n).take i) a0) := by
  intro t ht
  have ge : ∀ {j : Nat} {o : Oper}, ((l.take n).take i)[j]? = some o → j < i ∧ l[j]? = some o := fun {j o} h => by
    have hj : j < i := by
      rcases Nat.lt_or_ge j i with h' | h'
      · exact h'
      · rw [List.getElem?_eq_none (by simp; omega)] at h; cases h
    exact ⟨hj, by simpa [hj, Nat.lt_trans hj hi] using h⟩
  by_cases h : ∃ (j : Nat) (o' : Oper), j < n ∧ l[j]? = some o' ∧ o'.dst = some t
  · obtain ⟨j, o', hj, ho', hd⟩ := h
    rcases hc.reads i j o o' t hi hj ho ho' hd ht with ⟨hji, hwt⟩ | ⟨hij, hwt⟩
    · rw [inv.same j o' t hj ho' (hw j hwt) hd,
        puts_same vals t _ 0 a0 (hc.bound j o' t hj ho' hd) j o' (by simpa [hji, hj] using ho') hd (fun j' o'' ho'' hd' => by
          have ⟨hj', h'⟩ := ge ho''
          exact hc.apart j' j o'' o' t (by omega) hj h' ho' hd' hd), Nat.zero_add]
    · have hl : listed.getD j false = false := by
        cases hlj : listed.getD j false with
        | false => rfl
        | true =>
          obtain ⟨e, he, hb, hon⟩ := waits_iff.1 hwt
          have := inv.head.closed j o' (by simpa using ho') hlj e he hb
          rw [hon, getD_both hun] at this
          cases this
      rw [inv.other t (fun k ok hk hok hlk hdk => by
        have := hc.apart k j ok o' t hk hj hok ho' hdk hd
        subst this
        rw [hl] at hlk; cases hlk), puts_other]
      intro o'' ho'' hd''
      obtain ⟨k, hk⟩ := List.getElem?_of_mem ho''
      have ⟨hk1, hk2⟩ := ge hk
      have := hc.apart k j o'' o' t (by omega) hj hk2 ho' hd'' hd
      omega
  · rw [inv.other t (fun k ok hk hok _ hdk => h ⟨k, ok, hk, hok, hdk⟩), puts_other]
    intro o'' ho'' hd''
    obtain ⟨k, hk⟩ := List.getElem?_of_mem ho''
    have ⟨hk1, hk2⟩ := ge hk
    exact h ⟨k, o'', by omega, hk2, hd''⟩

theorem getD_set_self {listed : Array Bool} {i : Nat} (h : i < listed.size) (d : Bool) : (listed.setIfInBounds i true).getD i d = true := by
  simp [h]

theorem Inv.next {listed : Array Bool} {vals : Nat → Value} {a : Act} {w w' : World} (hc : Checked l n a0.tmps.size) (htr : ∀ a b c : World, R a b → R b c → R a c) (hst : stables R w0 Vs)
    (inv : Inv l n Vs R w0 a0 listed vals a w) {i : Nat} {o : Oper} (hi : i < n) (ho : l[i]? = some o) (hr : i ∈ Region.ready .any l.toArray listed) {v : Value} {V : VP} (hV : Vs[i]? = some V) (hv : V v w') (hR : R w w') :
    Inv l n Vs R w0 a0 (listed.setIfInBounds i true) (fun j => if j = i then v else vals j) (a.put o.dst v) w' := by
  have hun := (mem_ready.1 hr).1
  have hsz : i < listed.size := by
    rcases Nat.lt_or_ge i listed.size with h | h
    · exact h
    · simp [Array.getElem?_eq_none h] at hun
  refine ⟨inv.head.set hr hi, htr _ _ _ inv.rel hR, by rw [put_defers, inv.defers], by rw [put_size, inv.size], fun t ht => ?_, fun j oj d hj hoj hl hd => ?_, fun j Vj hj hVj hl => ?_⟩
  · rw [put_other _ _ _ _ (ht i o hi ho (getD_set_self hsz _))]
    exact inv.other t fun j oj hj hoj hl => ht j oj hj hoj (getD_set_true hl)
  · by_cases hji : j = i
    · subst hji
      have : oj = o := Option.some.inj (hoj.symm.trans ho)
      subst this
      rw [hd, put_same _ _ _ (by rw [inv.size]; exact hc.bound j oj d hj hoj hd)]
      simp
    · rw [put_other _ _ _ _ (fun e => hji (hc.apart j i oj o d hj hi hoj ho hd e)), if_neg hji]
      rw [getD_set_ne false (Ne.symm hji)] at hl
      exact inv.same j oj d hj hoj hl hd
  · by_cases hji : j = i
    · subst hji
      have : Vj = V := Option.some.inj (hVj.symm.trans hV)
      subst this
      simpa using hv
    · simp only [if_neg hji]
      rw [getD_set_ne false (Ne.symm hji)] at hl
      exact stables_spec Vs hst j Vj hVj _ _ _ inv.rel (inv.vals j Vj hj hVj hl) hR

/-- The whole walk. -/
theorem wpAny_rg (hc : Checked l n a0.tmps.size) (hV : Vs.length = n) (htr : ∀ a b c : World, R a b → R b c → R a c) (hst : stables R w0 Vs)
    (hob : obls P l.toArray R w0 a0 (l.take n) Vs 0 (l.take n) Vs)
    (hfin : ∀ w, R w0 w → fin (fun a w => wpList P l.toArray Q (l.drop n) a w) w (l.take n) Vs a0) :
    ∀ (fuel : Nat) (listed : Array Bool) (vals : Nat → Value) (a : Act) (w : World), Inv l n Vs R w0 a0 listed vals a w → listed.toList.count false = fuel → wpAny P .any l.toArray Q fuel listed a w := by
  have htl : (l.take n).length = n := by have := hc.le; simp; omega
  have hdl : (l.drop n).length = l.length - n := by simp
  have fin' : ∀ (fuel : Nat) (listed : Array Bool) (vals : Nat → Value) (a : Act) (w : World), Inv l n Vs R w0 a0 listed vals a w → listed.toList.count false = fuel → (∀ j, j < n → listed.getD j false = true) → wpAny P .any l.toArray Q fuel listed a w := by
    intro fuel listed vals a w inv hcnt hall
    have hmk : listed = mk n (l.length - n) := by
      have hs := inv.head.size
      have hle := hc.le
      exact mk_of_all (by rw [hs]; simp; omega) hall (fun t h1 h2 => inv.head.tail t h1 (by simp; omega))
    have hf : fuel = (l.drop n).length := by
      rw [← hcnt, hmk, hdl]; simp [mk, List.count_append, List.count_replicate]
    rw [hf]
    refine wpAny_of_seq (l.drop n) n listed a w (fun j => by simp [List.getElem?_drop]) (by rw [hdl, hmk]; exact hc.seq) ?_
    rw [inv.done hc hall]
    refine fin_spec vals (l.take n) Vs 0 a0 (by rw [htl, hV]) (hfin w inv.rel) fun k Vk hk => ?_
    have hkn : k < n := by
      rcases Nat.lt_or_ge k n with h | h
      · exact h
      · rw [List.getElem?_eq_none (by omega)] at hk; cases hk
    rw [Nat.zero_add]
    exact inv.vals k Vk hkn hk (hall k hkn)
  have nready : ∀ (listed : Array Bool) (vals : Nat → Value) (a : Act) (w : World), Inv l n Vs R w0 a0 listed vals a w → ¬ (∀ j, j < n → listed.getD j false = true) → ∃ j, j < n ∧ j ∈ Region.ready .any l.toArray listed := by
    intro listed vals a w inv hall
    obtain ⟨j, hj, hp, hm⟩ := exists_least (fun j => listed.getD j false = false) n (by
      refine Classical.byContradiction fun hno => hall fun j hj => ?_
      cases h : listed.getD j false with
      | true => rfl
      | false => exact absurd ⟨j, hj, h⟩ hno)
    have hjl : j < l.length := Nat.lt_of_lt_of_le hj hc.le
    have hjs : j < listed.size := by rw [inv.head.size]; simpa using hjl
    refine ⟨j, hj, mem_ready.2 ⟨getD_in hjs hp, l[j], by simp [hjl], fun e he hb => ?_⟩⟩
    have hlt := hc.back j l[j] hj (by simp [hjl]) e.on (waits_iff.2 ⟨e, he, hb, rfl⟩)
    have := hm e.on hlt
    simpa using this
  intro fuel
  induction fuel with
  | zero =>
    intro listed vals a w inv hcnt
    by_cases hall : ∀ j, j < n → listed.getD j false = true
    · exact fin' 0 listed vals a w inv hcnt hall
    · obtain ⟨j, _, hj⟩ := nready listed vals a w inv hall
      have := count_set_false listed j (mem_ready.1 hj).1
      omega
  | succ fuel ih =>
    intro listed vals a w inv hcnt
    by_cases hall : ∀ j, j < n → listed.getD j false = true
    · exact fin' _ listed vals a w inv hcnt hall
    · refine ⟨fun h => ?_, fun i hi => ?_⟩
      · obtain ⟨j, _, hj⟩ := nready listed vals a w inv hall
        rw [h] at hj; cases hj
      · obtain ⟨hun, o, ho, hafter⟩ := mem_ready.1 hi
        have ho' : l[i]? = some o := by simpa using ho
        have hin : i < n := by
          rcases Nat.lt_or_ge i n with h | h
          · exact h
          · exfalso
            have hil : i < l.length := (List.getElem?_eq_some_iff.1 ho').1
            rcases hc.tail with h' | ⟨h1, h2, h3⟩
            · omega
            · obtain ⟨j, hj, hj'⟩ := nready listed vals a w inv hall
              exact tail_waits h2 h3 (by simpa using h1) inv.head _ j rfl hj (mem_ready.1 hj').1 i h hi
        have hVi : i < Vs.length := by omega
        have hob' := obls_spec (l.take n) Vs 0 (by rw [htl, hV]) hob i o Vs[i] (by simpa [hin] using ho') (List.getElem?_eq_getElem hVi) w inv.rel
        rw [Nat.zero_add] at hob'
        have hwl : ∀ j, waits o j = true → listed.getD j false = true := fun j hj => by
          obtain ⟨e, he, hb, rfl⟩ := waits_iff.1 hj
          exact hafter e he hb
        have hp := pre_spec vals ((l.take n).take i) 0 Vs a0 (by simp; omega) hob' (fun k Vk hk hVk hwk => by
          rw [Nat.zero_add] at hwk ⊢
          have hkn : k < n := by simp at hk; omega
          exact inv.vals k Vk hkn hVk (hwl k hwk))
        refine wpOp_of ho (Region.noSelect_spec hc.sel i o · · ho) (fun d hd => by rw [puts_size]; exact hc.bound i o d hin ho' hd) (inv.agree hc hin ho' hun hwl) hp fun v w' hv => ?_
        refine ih _ _ _ _ (inv.next hc htr hst hin ho' hi (List.getElem?_eq_getElem hVi) hv.1 hv.2) ?_
        have := count_set_false listed i hun
        omega

/-- **A region that draws its order**: n operations, each shown in whatever world of the class it comes up in; then the tail. -/
theorem wp_region_rg {id : Nat} {a : Act} {w : World} (n : Nat) (R : World → World → Prop) (Vs : List VP) (hm : P.follows .mixedOrders = true) (hB : checkB l n a.tmps.size = true) (hV : Vs.length = n)
    (hrf : R w.drew w.drew) (htr : ∀ a b c : World, R a b → R b c → R a c) (hst : stables R w.drew Vs)
    (hob : obls P l.toArray R w.drew a (l.take n) Vs 0 (l.take n) Vs)
    (hfin : ∀ w', R w.drew w' → fin (fun a w => wpList P l.toArray Q (l.drop n) a w) w' (l.take n) Vs a) : (Code.region id l.toArray true).wp P Q a w := by
  have hc := checked_of hB
  refine wp_region_any hm ?_
  refine wpAny_rg (w0 := w.drew) (a0 := a) hc hV htr hst hob hfin _ _ (fun _ => undef) a w.drew ?_ (by simp)
  refine ⟨⟨by simp, fun j oj _ hl => (by rw [getD_replicate_false] at hl; cases hl), fun t _ ht => getD_in (by simpa using ht) (getD_replicate_false _ _)⟩, hrf, rfl, rfl, fun _ _ => rfl, ?_, ?_⟩
  · intro j o d _ _ hl
    rw [getD_replicate_false] at hl; cases hl
  · intro j V _ _ hl
    rw [getD_replicate_false] at hl; cases hl
end

#print axioms wp_region_rg
end Go.RG
