/- slices.IsSorted of a list that is sorted. -/
import Derived.Test.YtbholafggbdieaaBegin
import Derived.Test.YtbholafggbdieaaShelf
import Derived.IntWalk
namespace Go.Proofs.Ytbholafggbdieaa
open Go.RowKit

set_option maxRecDepth 10000 in
set_option maxHeartbeats 1000000 in
theorem sorted_yes (l : List Int) (v : Value) (w : World) (hv : Sl 1 encN w w.heap.size v l) (hs : l.Pairwise (· ≤ ·)) :
    Calls Try.prog 42 #[v] w fun e w' => e = .returned (.bool true) ∧ Below w.heap.size w w' := by
  obtain ⟨A, c, rfl, hac, hcm, hA⟩ := hv
  unfold maxLen at hcm
  have HA := Lib.hid hA; have HS := Lib.hid hs
  clear hA hs
  generalize hlen : l.length = len at *
  have HL := Lib.hid hlen; clear hlen
  go_enter Try.func42, Try.ntmps42
  go_wp2
  go_loopw [3] (fun i wr => ∃ k : Int, k < len ∧ -1 ≤ k ∧ i = .int .i64 k ∧ Below w.heap.size w wr) (fun i _ => (intOf i).toNat)
  case atStart => exact ⟨(len : Int) - 1, by omega, by omega, rfl, Below.refl _ _⟩
  case round =>
    obtain ⟨k, hk, hk0, rfl, hbel⟩ := hrel
    by_cases h0 : 0 < k
    · obtain ⟨m, rfl⟩ : ∃ m : Nat, k = (m : Int) + 1 := ⟨(k - 1).toNat, by omega⟩
      obtain ⟨b, o, rfl, hbb, hc⟩ := HA.out (by omega)
      obtain ⟨x, hx⟩ : ∃ x, l[m + 1]? = some x := ⟨_, List.getElem?_eq_getElem (by rw [HL.out]; omega)⟩
      obtain ⟨y, hy⟩ : ∃ y, l[m]? = some y := ⟨_, List.getElem?_eq_getElem (by rw [HL.out]; omega)⟩
      have hle : y ≤ x := by
        obtain ⟨h1, e1⟩ := List.getElem?_eq_some_iff.1 hx
        obtain ⟨h2, e2⟩ := List.getElem?_eq_some_iff.1 hy
        rw [← e1, ← e2]
        exact List.pairwise_iff_getElem.1 HS.out m (m + 1) h2 h1 (by omega)
      have c1 : wr.cell? ⟨b, o + (m + 1), none⟩ = some (.int .i64 x) := (hbel.cell (p := ⟨b, _, none⟩) hbb).trans (by simpa using hc (m + 1) x hx 0 _ rfl)
      have c0 : wr.cell? ⟨b, o + m, none⟩ = some (.int .i64 y) := (hbel.cell (p := ⟨b, _, none⟩) hbb).trans (by simpa using hc m y hy 0 _ rfl)
      have ls : ∀ W, Calls Try.prog 53 #[.int .i64 x, .int .i64 y] W fun e w' => e = .returned (.bool false) ∧ w' = W := fun W =>
        (Try.cmp_Less_int2 x y W).mono fun e w' ⟨he, hw⟩ => ⟨by rw [he, show decide (x < y) = false by simp; omega], hw⟩
      have LS := Lib.hid ls
      clear ls
      clear hx hy hc hle
      have b1 : (m : Int) + 1 < (len : Int) := by omega
      have e1 : ((m : Int) + 1).toNat = m + 1 := by omega
      have w1 : IntKind.i64.wrap ((m : Int) + 1 - 1) = (m : Int) := by rw [show (m : Int) + 1 - 1 = (m : Int) by omega]; exact IntWalk.i64_in _ (by omega)
      have z1 : (0 : Int) ≤ (m : Int) + 1 := by omega
      go_wp2_with fail
      go_quiet ((go_at_call 53; exact Calls.quiet_of_same (LS.out _)))
      clear w1 e1
      go_wp2
      go_roundw
      case rel => exact ⟨m, by omega, by omega, by go_num, below_drewN hbel nq⟩
      case measure => simp [intOf]
    · have h1 : decide (0 < k) = false := by simp; omega
      go_wp2
      go_ret
      exact ⟨rfl, hbel⟩
end Go.Proofs.Ytbholafggbdieaa
