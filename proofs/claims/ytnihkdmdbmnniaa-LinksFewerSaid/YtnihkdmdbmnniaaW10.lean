/- ref.Link, ref.ready. -/
import Derived.Test.YtnihkdmdbmnniaaW9
set_option linter.unusedSimpArgs false
namespace Go.Proofs.Ytnihkdmdbmnniaa
open Go.RowKit

/-- What Link answers. -/
def LinkA (ls : List Lk) (p r : Int) : Prop := (r = -1 ∧ p ∉ ls.map Lk.to) ∨ ∃ i : Nat, r = i ∧ i < ls.length ∧ (ls.getD i Lk.z).to = p

set_option maxHeartbeats 400000 in
theorem link_ (A : Option Addr) (m c : Nat) (ls : List Lk) (p : Int) (w : World) (hs : SlL w A m ls) (hm : m ≤ 256) :
    Calls Try.prog 29 #[.slice A m c, .int .i64 p] w fun e w' => w = w' ∧ ∃ r, LinkA ls p r ∧ e = .returned (.int .i64 r) := by
  have HS := Lib.hid hs
  clear hs
  go_enter Try.func29, Try.ntmps29
  go_wp2
  go_loopw [5] (fun i wr => wr = w ∧ ∃ k : Nat, k ≤ m ∧ i = .int .i64 k ∧ Hid (∀ j, j < k → (ls.getD j Lk.z).to ≠ p)) (fun i _ => m - (intOf i).toNat)
  case atStart => exact ⟨rfl, 0, Nat.zero_le _, rfl, fun j hj => absurd hj (by omega)⟩
  case round =>
    obtain ⟨rfl, k, hk, rfl, hno⟩ := hrel
    by_cases hlt : k < m
    · obtain ⟨b, off, hA, hb, hcell⟩ := HS.out.2 (by omega)
      have hc := (hcell k hlt).2.1
      rw [hA]
      have HXK : Hid (k < ls.length) := by show k < ls.length; rw [HS.out.1]; exact hlt
      clear hcell hA
      by_cases he : (ls.getD k Lk.z).to = p
      · have HE := Lib.hid he
        rw [he] at hc
        clear he
        go_wp2
        go_ret
        exact ⟨rfl, k, .inr ⟨k, rfl, HXK.out, HE.out⟩, rfl⟩
      · have HE := Lib.hid he
        have hb2 : ((ls.getD k Lk.z).to == p) = false := by simpa using he
        clear he
        obtain ⟨y, hy⟩ : ∃ y, (ls.getD k Lk.z).to = y := ⟨_, rfl⟩
        rw [hy] at hb2 hc
        clear hy
        go_wp2
        go_roundw
        case rel =>
          refine ⟨trivial, k + 1, by omega, by go_num, fun j hj => ?_⟩
          rcases Nat.lt_or_ge j k with h | h
          · exact hno.out j h
          · obtain rfl : j = k := by omega
            exact HE.out
        case measure => simp [intOf]; omega
    · go_wp2
      go_ret
      refine ⟨rfl, -1, .inl ⟨rfl, fun h => ?_⟩, rfl⟩
      obtain ⟨x, hx, rfl⟩ := List.mem_map.1 h
      obtain ⟨i, hi, rfl⟩ := List.getElem_of_mem hx
      exact hno.out i (by have := HS.out.1; omega) (by simp [List.getD, hi])

/-- What ready answers. -/
def rdyB (bs : List Bool) (ls : List Lk) (p : Nat) : Bool := !bs.getD p false && (match src ls p with | none => true | some x => bs.getD x.fr.toNat false)

theorem ready_ (A : Option Addr) (m c : Nat) (ls : List Lk) (g n : Nat) (bs : List Bool) (p : Nat) (w : World) (hs : SlL w A m ls) (hm : m ≤ 256) (hb : Blk w g 4 (bs.map Value.bool).toArray) (hn : bs.length = n) (hp : p < n) (_hn2 : n ≤ 256)
    (hok : ∀ k ∈ ls, 0 ≤ k.fr ∧ k.fr ≤ n - 1) (hnd : (ls.map Lk.to).Nodup) :
    Calls Try.prog 27 #[.slice A m c, .slice (some ⟨g, 0, none⟩) n n, .int .i64 p] w fun e w' => w = w' ∧
      e = .returned (.bool (rdyB bs ls p)) := by
  have HS := Lib.hid hs
  have HK := Lib.hid hok
  have HND := Lib.hid hnd
  have hc := hb.cell p
  rw [cellOfB _ _ (by omega)] at hc
  have HB := Lib.hid hb
  have HN := Lib.hid hn
  have hg := hb.lt
  clear hs hok hnd hb hn
  go_enter Try.func27, Try.ntmps27
  cases hbp : bs.getD p false with
  | true =>
    rw [hbp] at hc
    have HR : Hid (rdyB bs ls p = false) := by show rdyB bs ls p = false; unfold rdyB; rw [hbp]; rfl
    clear hbp
    go_wp2
    go_ret
    exact ⟨rfl, by rw [HR.out]; rfl⟩
  | false =>
    rw [hbp] at hc
    have HP := Lib.hid hbp
    clear hbp
    go_wp2_with fail
    refine (link_ _ _ _ _ _ _ HS.out hm).mono ?_
    rintro e w1 ⟨rfl, r, hr, rfl⟩
    rcases hr with ⟨rfl, hno⟩ | ⟨i, rfl, hi, hto⟩
    · have HR : Hid (rdyB bs ls p = true) := by show rdyB bs ls p = true; unfold rdyB; rw [HP.out, src_none.2 hno]; rfl
      clear hno
      go_wp2
      go_ret
      exact ⟨rfl, by rw [HR.out]; rfl⟩
    · have hmem : ls.getD i Lk.z ∈ ls := by simp [List.getD, hi]
      have HE := Lib.hid (src_of_mem HND.out hmem)
      rw [hto] at HE
      have hfr := HK.out _ hmem
      have hi2 : i < m := by rw [← HS.out.1]; exact hi
      obtain ⟨b, off, hA, hb, hcell⟩ := HS.out.2 (by omega)
      have hc0 := (hcell i hi2).1
      rw [hA]
      generalize ls.getD i Lk.z = x at *
      have hc2 := HB.out.cell x.fr.toNat
      rw [cellOfB _ _ (by rw [HN.out]; omega)] at hc2
      have HR : Hid (rdyB bs ls p = bs.getD x.fr.toNat false) := by show rdyB bs ls p = _; unfold rdyB; rw [HP.out, HE.out]; rfl
      generalize bs.getD x.fr.toNat false = y at *
      clear hcell hA hmem hto hi
      go_wp2
      go_ret
      exact ⟨rfl, by rw [HR.out]; rfl⟩
end Go.Proofs.Ytnihkdmdbmnniaa
