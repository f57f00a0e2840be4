/- The contract of Windows. -/
import Derived.Test.YtikoabajlibheaaW6
namespace Go.Proofs.Ytikoabajlibheaa
open Go.RowKit Go.Shelf
attribute [local go_sem] Oper.semAt_some

/-- A block that is known whole. -/
def Blk (w : World) (g : Nat) (t : TypeId) (cs : Array Value) : Prop := w.heap[g]? = some (.cells cs t)

theorem Blk.lt {w : World} {g : Nat} {t : TypeId} {cs : Array Value} (h : Blk w g t cs) : g < w.heap.size := (Array.getElem?_eq_some_iff.1 h).1
theorem Blk.new (w : World) (t : TypeId) (cs : Array Value) : Blk (w.alloc (.cells cs t)) w.heap.size t cs := World.alloc_heap_new w _
theorem Blk.alloc {w : World} {g : Nat} {t : TypeId} {cs : Array Value} (h : Blk w g t cs) (o : Obj) : Blk (w.alloc o) g t cs := (Below.heap_alloc w o g h.lt).trans h
theorem Blk.cell {w : World} {g : Nat} {t : TypeId} {cs : Array Value} (h : Blk w g t cs) (i : Nat) : w.cell? ⟨g, i, none⟩ = cs[i]? := by
  unfold Blk at h
  unfold World.cell?
  rw [h]
  rfl
theorem Blk.frozen {w : World} {g : Nat} {t : TypeId} {cs : Array Value} (h : Blk w g t cs) (i : Nat) : w.frozen? ⟨g, i, none⟩ = false := by
  unfold Blk at h
  unfold World.frozen?
  rw [h]
  simp
theorem Blk.set {w : World} {g : Nat} {t : TypeId} {cs : Array Value} (h : Blk w g t cs) (i : Nat) (u : Value) : Blk (w.setCell ⟨g, i, none⟩ u) g t (cs.setIfInBounds i u) := by
  unfold Blk at h ⊢
  simp [World.setCell, Array.getElem?_modify, h]
theorem Blk.far {w : World} {g : Nat} {t : TypeId} {cs : Array Value} (h : Blk w g t cs) {p : Addr} (hp : g ≠ p.block) (u : Value) : Blk (w.setCell p u) g t cs := (Below.heap_setCell w p u g hp).trans h
theorem Blk.below {w w' : World} {B g : Nat} {t : TypeId} {cs : Array Value} (h : Blk w g t cs) (hb : Below B w w') (hg : g < B) : Blk w' g t cs := (hb.block g hg).trans h
theorem Blk.grew {w w' : World} {g : Nat} {t : TypeId} {cs : Array Value} (h : Blk w g t cs) (hb : Grew w w') : Blk w' g t cs := (hb.block g h.lt).trans h
theorem Blk.put {w : World} {g l : Nat} {t : TypeId} {cs : Array Value} {o : Obj} (h : Blk w g t cs) (hl : w.heap[l]? = some o) (ho : o.isCells = false) (o' : Obj) : Blk (w.putObj l o') g t cs := by
  have : g ≠ l := by
    rintro rfl
    unfold Blk at h
    rw [h] at hl
    cases hl
    cases ho
  exact (World.putObj_heap_other this).trans h

theorem own_put {w : World} {base : Nat} {e : TypeId} {size : Nat} {v : Value} {n : Nat} {xs : List Value} (h : w.ownsRow base e size v n xs) {l : Nat} {o : Obj} (hl : w.heap[l]? = some o) (ho : o.isCells = false) (o' : Obj) : (w.putObj l o').ownsRow base e size v n xs := by
  obtain ⟨h1, h2⟩ := h
  refine ⟨h1, ?_⟩
  rcases h2 with h2 | ⟨g, cap, cur, hv, hg, hh, r⟩
  · exact Or.inl h2
  · exact Or.inr ⟨g, cap, cur, hv, hg, Blk.put (t := e) hh hl ho o', r⟩

theorem grew_put {a w : World} (h : Grew a w) {l : Nat} {o' : Obj} (hl : a.heap.size ≤ l) : Grew a (w.putObj l o') :=
  Below.grown h (grownBy_putObj' w l o') h.size (fun k e => by cases e; exact hl)

theorem own_cells {w : World} {base : Nat} {e : TypeId} {size : Nat} {v : Value} {n : Nat} {xs : List Value} (h : w.ownsRow base e size v n xs) : ∀ (j : Nat) (o : Obj), v.ownBlock = some j → w.heap[j]? = some o → o.isCells = true := by
  intro j o hj ho
  rcases h.2 with ⟨rfl, _⟩ | ⟨g, cap, cur, rfl, hg, hh, _⟩
  · simp [Value.ownBlock] at hj
  · simp [Value.ownBlock] at hj
    subst hj
    rw [hh] at ho
    cases ho
    rfl

theorem Sl.news {w : World} {g : Nat} {x : Int} (h : Sl w (some ⟨g, 0, none⟩) 1 [x]) : ∀ (j : Nat) (u : Value), [Value.int .i64 x][j]? = some u → w.cell? ((⟨g, 0, none⟩ : Addr).add j) = some u := by
  intro j u hu
  obtain ⟨b, off, e, _, hc⟩ := h.2 (by omega)
  injection e with e
  injection e with e1 e2 _
  subst e1 e2
  cases j with
  | zero =>
    simp at hu
    subst hu
    have := hc 0 (by omega)
    simpa [Addr.add] using this
  | succ j => simp at hu

theorem own_sl2 {w : World} {base : Nat} {e : TypeId} {A : Option Addr} {m c : Nat} {n : Nat} {xs : List Int} (h : w.ownsRow base e 1 (.slice A m c) n (xs.map (Value.int .i64))) : Sl w A n xs := by
  obtain ⟨A', c', e, _, hs⟩ := own_sl h
  injection e with e1 _ _
  subst e1
  exact hs

/-- What holds between two rounds. -/
structure WI (w : World) (xs : List Int) (sn : Nat) (ps : List Nat) (W : World) : Prop where
  grew : Grew w W
  size : w.heap.size + 4 ≤ W.heap.size
  row : ∃ v, Blk W w.heap.size 22 #[v] ∧ W.ownsRow (w.heap.size + 4) 3 1 v ps.length ((ps.map fun p => en ((xs.drop p).take sn)).map (Value.int .i64))

set_option maxHeartbeats 1000000 in
theorem windows_ (A : Option Addr) (n c : Nat) (xs : List Int) (s h : Int) (w : World) (hs : Sl w A n xs) (hn : n ≤ 65536) (hc : n ≤ c) :
    Calls Try.prog 11 #[.slice A n c, .int .i64 s, .int .i64 h] w (WinV w xs s h) := by
  by_cases hok : okW s h = true
  · have HV : Hid (∀ e w', (Grew w w' ∧ ∃ A n c, Sl w' A n (winL xs s.toNat h.toNat) ∧ n ≤ c ∧ e = .returned (.tuple #[.slice A n c, .int .i64 0])) → WinV w xs s h e w') := by
      intro e w' h; unfold WinV; rw [if_pos hok, if_pos hok]; exact h
    obtain ⟨s0, s1, h0, h1⟩ := of_decide_eq_true hok
    clear hok
    have HL := Lib.hid hs.1
    have HS := Lib.hid hs
    clear hs
    obtain ⟨i0, hi, hz0, hz1, hz2⟩ := info_parts Try.info3
    obtain ⟨sn, rfl⟩ := Int.eq_ofNat_of_zero_le (show 0 ≤ s by omega)
    obtain ⟨hn', rfl⟩ := Int.eq_ofNat_of_zero_le (show 0 ≤ h by omega)
    rw [Int.toNat_natCast, Int.toNat_natCast] at HV
    refine (callsIn_wide (n := 0)).1 ?_
    refine callsIn_of_wp_marks Try.func11 rfl trivial ?_ rfl
    simp only [Try.ntmps11, List.size_toArray, List.length_cons, List.length_nil, Nat.reduceAdd, Nat.reduceSub, Array.replicate_succ, Array.replicate_zero, List.push_toArray, List.append_toArray, List.nil_append, List.cons_append]
    gi_wp2_with (refine ⟨trivial, rfl, ?_⟩; gi_at_call 21; refine (callsIn_wide.2 (windowsF A n c sn hn' _)).mono ?_; rintro e w' ⟨rfl, rfl⟩)
    obtain ⟨b, off, hbo⟩ : ∃ b off, 0 < n → A = some ⟨b, off, none⟩ ∧ b < w.heap.size := by
      by_cases h : 0 < n
      · obtain ⟨b, off, e, hb, _⟩ := HS.out.2 h
        exact ⟨b, off, fun _ => ⟨e, hb⟩⟩
      · exact ⟨0, 0, fun h' => absurd h' h⟩
    have HB := Lib.hid hbo
    clear hbo
    obtain ⟨W0, hW0⟩ : ∃ W0, ((((w.alloc (Obj.cells #[Value.slice none 0 0] 22)).alloc (Obj.cells #[Value.slice A n c] 22)).alloc (Obj.cells #[Value.int IntKind.i64 ↑sn] 3)).alloc (Obj.cells #[Value.int IntKind.i64 ↑hn'] 3)) = W0 := ⟨_, rfl⟩
    have hsz : W0.heap.size = w.heap.size + 4 := by rw [← hW0]; simp
    have hg0 : Grew w W0 := by rw [← hW0]; exact ((((Grew.refl w).alloc _).alloc _).alloc _).alloc _
    have b0 : Blk W0 w.heap.size 22 #[.slice none 0 0] := by rw [← hW0]; exact (((Blk.new w _ _).alloc _).alloc _).alloc _
    have b1 : Blk W0 (w.heap.size + 1) 22 #[.slice A n c] := by
      have := (((Blk.new (w.alloc (Obj.cells #[Value.slice none 0 0] 22)) 22 #[.slice A n c]).alloc (Obj.cells #[Value.int IntKind.i64 ↑sn] 3)).alloc (Obj.cells #[Value.int IntKind.i64 ↑hn'] 3))
      rw [World.size_alloc] at this; rw [← hW0]; exact this
    have b2 : Blk W0 (w.heap.size + 1 + 1) 3 #[.int .i64 sn] := by
      have := ((Blk.new ((w.alloc (Obj.cells #[Value.slice none 0 0] 22)).alloc (Obj.cells #[Value.slice A n c] 22)) 3 #[.int .i64 sn]).alloc (Obj.cells #[Value.int IntKind.i64 ↑hn'] 3))
      rw [World.size_alloc, World.size_alloc] at this; rw [← hW0]; exact this
    have b3 : Blk W0 (w.heap.size + 1 + 2) 3 #[.int .i64 hn'] := by
      have := Blk.new (((w.alloc (Obj.cells #[Value.slice none 0 0] 22)).alloc (Obj.cells #[Value.slice A n c] 22)).alloc (Obj.cells #[Value.int IntKind.i64 ↑sn] 3)) 3 #[.int .i64 hn']
      rw [World.size_alloc, World.size_alloc, World.size_alloc] at this; rw [← hW0]; exact this
    rw [hW0]
    clear hW0
    refine RF.range_law (gf := 28) (lb := #[.pointer (some ⟨w.heap.size + 1, 0, none⟩), .pointer (some ⟨w.heap.size + 1 + 1, 0, none⟩), .pointer (some ⟨w.heap.size + 1 + 2, 0, none⟩)]) rfl (enters_of Try.func28 (by kernel_rfl) rfl)
      (windows1 b off n c sn hn' (w.heap.size + 1) (w.heap.size + 1 + 1) (w.heap.size + 1 + 2) (by omega) (by omega) (by omega) (by omega) hc (by omega) (by omega)) ?h0W ?hA ?hKt ?hKb ?hps
      (fun ps W => WI w xs sn (ps.map (·.1)) W) (fun _ _ _ => False) ?hI (fun _ _ _ _ _ _ h _ _ _ => h) ?hIA (fun _ _ _ _ h _ => h) ?h0 ?hround ?hdone ?hstop
    case h0W =>
      intro o o'
      refine ⟨⟨A, c, ((b1.alloc o).alloc o').cell 0, by omega, fun h => ⟨(HB.out (by omega)).1, by omega⟩⟩, ((b1.alloc o).alloc o').frozen 0, ((b2.alloc o).alloc o').cell 0, ((b3.alloc o).alloc o').cell 0⟩
    case hA =>
      rintro X Y ⟨v, rfl⟩
      exact (RF.Keeps.refl _ _).setCell _ _
    case hKt => exact fun h k i hi => (k i hi).trans (h i hi)
    case hKb =>
      intro W l o' hl k hk
      exact World.putObj_heap_other (by omega)
    case hps => exact fun _ => rfl
    case hI =>
      rintro ps W l o o' ⟨h1, h2, v, h3, h4⟩ hl hlo ho
      exact ⟨grew_put h1 (by omega), by simpa using h2, v, h3.put hlo ho o', own_put h4 hlo ho o'⟩
    case hIA =>
      rintro ps X Y ⟨h1, h2, v, h3, h4⟩ ⟨u, rfl⟩
      exact ⟨grew_set h1 (by omega) u, by rw [setCell_size]; exact h2, v, h3.far (by show w.heap.size ≠ w.heap.size + 1; omega) u, ownsRow_setCell_below h4 (by show w.heap.size + 1 < _; omega) u⟩
    case h0 =>
      intro o o'
      exact ⟨(hg0.alloc o).alloc o', by simp; omega, _, (b0.alloc o).alloc o', ⟨rfl, .inl ⟨rfl, rfl⟩⟩⟩
    case hstop =>
      rintro D c pre W _ _ h
      exact h.elim
    case hround =>
      intro l pre x W hw hlen
      unfold encW
      gi_wp2
      refine ⟨trivial, ?_⟩
      rintro W2 ⟨h1, h2, v, h3, h4⟩ hlt
      clear hw b0 b1 b2 b3 hg0
      gi_wp2
      have hx := x.2
      refine RF.region_rg_in ⟨_, rfl⟩ (by kernel_rfl) 4 (fun a b => Grew a b) [fun u _ => u = v, fun u _ => u = .slice (some ⟨b, off + x.1, none⟩) sn (c - x.1), fun u _ => u = .int .i64 (en ((xs.drop x.1).take sn)),
        fun u w => ∃ g, u = .slice (some ⟨g, 0, none⟩) 1 1 ∧ Sl w (some ⟨g, 0, none⟩) 1 [en ((xs.drop x.1).take sn)]] Try.mixed (by kernel_rfl) rfl (Grew.refl _) (fun _ _ _ a b => a.trans b) ?st ?ob ?fin
      case st =>
        refine ⟨fun _ _ _ _ h _ => h, fun _ _ _ _ h _ => h, fun _ _ _ _ h _ => h, fun _ _ _ _ h g => ?_, trivial⟩
        obtain ⟨b, e, hs⟩ := h
        exact ⟨b, e, hs.grew g⟩
      case ob =>
        refine ⟨fun w' hR => ?_, fun w' hR => ?_, fun w' hR => ?_, fun w' hR => ?_, trivial⟩
        · show wpList _ _ _ _ _ _
          have hR := Grew.of_drew hR
          have hc0 := (h3.grew hR).cell 0
          go_wp2
          exact ⟨_, rfl, rfl, Grew.refl _⟩
        · rintro v0
          show wpList _ _ _ _ _ _
          simp only [Act.put, List.setIfInBounds_toArray, List.set_cons_succ, List.set_cons_zero]
          go_wp2
          exact ⟨_, rfl, rfl, Grew.refl _⟩
        · rintro v0 _ rfl
          show wpList _ _ _ _ _ _
          simp only [Act.put, List.setIfInBounds_toArray, List.set_cons_succ, List.set_cons_zero]
          have hR := Grew.of_drew hR
          have hsl := Lib.hid ((((HB.out (by omega)).1 ▸ HS.out).cut x.1 sn hx).grew (h1.trans hR))
          go_wp2_with (go_at_call 19; refine (energy _ _ _ _ _ hsl.out (by omega)).mono ?_; rintro e w1 ⟨rfl, rfl⟩)
          exact ⟨_, rfl, rfl, Grew.refl _⟩
        · rintro v0 v1 _ rfl
          show wpList _ _ _ _ _ _
          simp only [Act.put, List.setIfInBounds_toArray, List.set_cons_succ, List.set_cons_zero]
          go_wp2
          exact ⟨_, rfl, ⟨_, rfl, Sl.new _ [_] _⟩, (Grew.refl _).alloc _⟩
      case fin =>
        rintro w' hR _ rfl _ rfl _ rfl _ ⟨g, rfl, hsl⟩
        show wpList _ _ _ _ _ _
        simp only [Act.put, List.setIfInBounds_toArray, List.set_cons_succ, List.set_cons_zero, List.drop_succ_cons, List.drop_zero]
        have hR := Grew.of_drew hR
        have HB3 := Lib.hid (h3.grew hR)
        have HOWN := Lib.hid (own_grew h4 hR)
        have HSL := Lib.hid hsl
        have hs' := Grew.size hR
        have hlp : (List.map (fun x => x.val) pre).length ≤ 65536 := by have := cnt_le n sn hn' (by omega); simp; omega
        clear hsl h3 h4
        go_wp2_with (at_builtin; refine wpList_append_own _ rfl _ _ 22 rfl (w.heap.size + 4) 3 i0 (.int .i64 0) 1 8 Try.underlying22 hi hz0 hz1 hz2 rfl (by decide) _ _ _ rfl HOWN.out ⟨g, 0, none⟩ 1 1 [.int .i64 (en ((xs.drop x.1).take sn))] rfl rfl HSL.out.news (by simp [Value.oneCell']) (by unfold maxLen; omega) (by omega) (by omega) ?_; intro v' w1 hown' hgrow _; obtain ⟨g', cap', rfl⟩ := ownsRow_succ hown'; have hB : Below (w.heap.size + 4) w' w1 := (Below.refl _ _).grown hgrow (by omega) (own_ge HOWN.out); have hblk := Lib.hid (HB3.out.below hB (by omega)); have hc1 := hblk.out.cell 0; have hf1 := hblk.out.frozen 0)
        refine ⟨?_, ?_, ?_, ?_, ?_⟩
        · exact ((((RF.Keeps.refl _ W2).below hR (Nat.le_refl _)).grown hgrow (own_cells HOWN.out))).setCell _ _
        · intro k hk
          exact (Below.heap_setCell _ _ _ _ (by show k ≠ w.heap.size; omega)).trans ((hB.block k (by omega)).trans (hR.block k (by omega)))
        · exact grew_set ((h1.trans hR).trans' hB (by omega)) (Nat.le_refl _) _
        · rw [setCell_size]; have := hB.size; omega
        · refine ⟨_, hblk.out.set 0 _, ?_⟩
          have := ownsRow_setCell_below hown' (a := ⟨w.heap.size, 0, none⟩) (by show w.heap.size < _; omega) (Value.slice (some { block := g', off := 0 }) (pre.length + 1) cap')
          simpa using this
    case hdone =>
      rintro D ps W hD hS ⟨h1, h2, v, h3, h4⟩ hK
      obtain ⟨A', c', rfl, hc', hsl⟩ := own_sl h4
      have hc0 := h3.cell 0
      have hf0 := h3.frozen 0
      have HOWN := Lib.hid h4
      have HB3 := Lib.hid h3
      clear h3 h4 hsl b0 b1 b2 b3
      gi_wp2
      have hK' : (W.setCell { block := w.heap.size, off := 0 } (Value.slice A' ps.length c')).heap[D]? = some (.deferred (some [])) := (Below.heap_setCell _ _ _ _ (by show D ≠ w.heap.size; omega)).trans hK
      refine ⟨by simp, .inl ⟨_, _, rfl, run_takeDeferred hK', ?_⟩⟩
      have HE : ps.map (fun x => en ((xs.drop x.1).take sn)) = winL xs sn hn' := by
        unfold winL winK
        have e1 : ps.map (fun x => en ((xs.drop x.1).take sn)) = (ps.map (·.1)).map (fun p => en ((xs.drop p).take sn)) := by rw [List.map_map]; rfl
        rw [e1, hS, List.map_map, HL.out]; rfl
      have hsl := (own_sl2 (own_put (ownsRow_setCell_below HOWN.out (a := ⟨w.heap.size, 0, none⟩) (by show w.heap.size < _; omega) (Value.slice A' ps.length c')) hK' rfl (.deferred none)))
      rw [List.map_map] at hsl
      rw [show ps.map ((fun p => en ((xs.drop p).take sn)) ∘ fun x => x.val) = winL xs sn hn' from HE, List.length_map] at hsl
      have hb4 := (HB3.out.set 0 (Value.slice A' ps.length c')).put hK' rfl (.deferred none)
      have hc4 := hb4.cell 0
      refine ⟨.tuple #[.slice A' ps.length c', .int .i64 0], ?_, HV.out _ _ ⟨grew_put (grew_set h1 (Nat.le_refl _) _) (by omega), A', ps.length, c', hsl, by simpa using hc', rfl⟩⟩
      simp [results, Try.results11, go_sem, hc4]
  · have HV : Hid (∀ e w', (Grew w w' ∧ ∃ A n c, Sl w' A n [] ∧ n ≤ c ∧ e = .returned (.tuple #[.slice A n c, .int .i64 1])) → WinV w xs s h e w') := by
      intro e w' h; unfold WinV; rw [if_neg hok, if_neg hok]; exact h
    have hok' : ¬ (1 ≤ s ∧ s ≤ 65536 ∧ 1 ≤ h ∧ h ≤ 16777216) := fun h' => hok (decide_eq_true h')
    clear hs hok
    have fin : ∀ w', Grew w w' → WinV w xs s h (.returned (.tuple #[.slice none 0 0, .int .i64 1])) w' := fun w' hg => HV.out _ _ ⟨hg, none, 0, 0, Sl.nil _ _, Nat.le_refl _, rfl⟩
    have FIN := Lib.hid fin
    clear fin HV
    refine (callsIn_wide (n := 0)).1 ?_
    refine callsIn_of_wp_marks Try.func11 rfl trivial ?_ rfl
    simp only [Try.ntmps11, List.size_toArray, List.length_cons, List.length_nil, Nat.reduceAdd, Nat.reduceSub, Array.replicate_succ, Array.replicate_zero, List.push_toArray, List.append_toArray, List.nil_append, List.cons_append]
    by_cases h1 : s < 1
    · clear hok'
      gi_wp2
      refine ⟨.tuple #[.slice none 0 0, .int .i64 1], ?_, FIN.out _ ((Grew.refl w).alloc _)⟩
      simp [results, Try.results11, go_sem]
    · by_cases h2 : 65536 < s
      · clear hok'
        gi_wp2
        refine ⟨.tuple #[.slice none 0 0, .int .i64 1], ?_, FIN.out _ ((Grew.refl w).alloc _)⟩
        simp [results, Try.results11, go_sem]
      · by_cases h3 : h < 1
        · clear hok'
          gi_wp2
          refine ⟨.tuple #[.slice none 0 0, .int .i64 1], ?_, FIN.out _ ((Grew.refl w).alloc _)⟩
          simp [results, Try.results11, go_sem]
        · have h4 : 16777216 < h := by omega
          clear hok'
          gi_wp2
          refine ⟨.tuple #[.slice none 0 0, .int .i64 1], ?_, FIN.out _ ((Grew.refl w).alloc _)⟩
          simp [results, Try.results11, go_sem]

end Go.Proofs.Ytikoabajlibheaa
