/- The walk of MetersTogether. -/
import Derived.Test.YtikoabajlibheaaMetersTogetherA0
import Derived.Test.YtikoabajlibheaaMetersTogetherA1
import Derived.Test.YtikoabajlibheaaMetersTogetherB0
import Derived.Test.YtikoabajlibheaaMetersTogetherB1
namespace Go.Proofs.Ytikoabajlibheaa
open Go.RowKit

set_option maxRecDepth 100000 in
set_option maxHeartbeats 1000000 in
theorem metersTogether_all (A B : Option Addr) (n c m d : Nat) (xs ys : List Int) (w : World) (hs : Sl w A n xs) (hnA : A = none → n = 0 ∧ c = 0) (ht : Sl w B m ys) (hnB : B = none → m = 0 ∧ d = 0) :
    Calls Try.prog 4 #[.slice A n c, .slice B m d] w fun e w' => e = .returned (.bool true) ∧ Grew w w' := by
  by_cases hn : n ≤ 150
  · by_cases hm : m ≤ 150
    · by_cases hN : n + m = 0
      · by_cases hab : pk xs < pk ys
        · exact metersTogether_walk00 A B n c m d xs ys w hs hnA ht hnB hn hm hN hab
        · exact metersTogether_walk01 A B n c m d xs ys w hs hnA ht hnB hn hm hN hab
      · by_cases hab : pk xs < pk ys
        · exact metersTogether_walk10 A B n c m d xs ys w hs hnA ht hnB hn hm hN hab
        · exact metersTogether_walk11 A B n c m d xs ys w hs hnA ht hnB hn hm hN hab
    · clear hs ht hnA hnB
      go_enter Try.func4, Try.ntmps4
      go_wp2_with fail
      refine (sane _).mono ?_
      rintro e w1 ⟨rfl, g1⟩
      go_wp2
      go_ret
      exact ⟨rfl, g1⟩
  · clear hs ht hnA hnB
    go_enter Try.func4, Try.ntmps4
    go_wp2_with fail
    refine (sane _).mono ?_
    rintro e w1 ⟨rfl, g1⟩
    go_wp2
    go_ret
    exact ⟨rfl, g1⟩

theorem nil_of_row {w : World} {a : Option Addr} {len cap : Nat} {zs : List Int}
    (h : (a = none ∧ len = 0 ∧ cap = 0 ∧ zs = []) ∨ ∃ x, a = some x ∧ len ≤ cap ∧ cap ≤ maxLen ∧ zs.length = cap ∧ (∀ i, i < zs.length → w.cell? (x.add i) = some (.int .i64 (zs.getD i 0))) ∧ ∀ n ∈ zs, (Lit.int .i64 n).wf = true) :
    a = none → len = 0 ∧ cap = 0 := by
  rcases h with ⟨_, h1, h2, _⟩ | ⟨x, rfl, _⟩
  · exact fun _ => ⟨h1, h2⟩
  · intro h; cases h

end Go.Proofs.Ytikoabajlibheaa
