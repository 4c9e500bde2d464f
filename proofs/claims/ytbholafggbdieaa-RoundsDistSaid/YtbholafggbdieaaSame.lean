/- sameInts of lists that are the same. -/
import Derived.Test.YtbholafggbdieaaRoundState
import Derived.Deep.QuietTactic
import Derived.BigQuiet
namespace Go.Proofs.Ytbholafggbdieaa
open Go.RowKit

set_option maxRecDepth 10000 in
set_option maxHeartbeats 1000000 in
theorem sameInts_yes (l : List Int) (v1 v2 : Value) (w : World) (h1 : Sl 1 encN w w.heap.size v1 l) (h2 : Sl 1 encN w w.heap.size v2 l) :
    Calls Try.prog 18 #[v1, v2] w fun e w' => e = .returned (.bool true) ∧ Below w.heap.size w w' := by
  obtain ⟨A, c, rfl, hac, hcm, hA⟩ := h1
  obtain ⟨A2, c2, rfl, hac2, hcm2, hA2⟩ := h2
  unfold maxLen at hcm hcm2
  have HA := Lib.hid hA; have HA2 := Lib.hid hA2
  clear hA hA2
  generalize hlen : l.length = len at *
  have HL := Lib.hid hlen; clear hlen
  have tn : (((len : Nat) : Int) != ((len : Nat) : Int)) = false := by simp
  go_enter Try.func18, Try.ntmps18
  go_wp2
  go_loopw [5] (fun i wr => ∃ k : Nat, k ≤ len ∧ i = .int .i64 k ∧ Below w.heap.size w wr) (fun i _ => len - (intOf i).toNat)
  case atStart => exact ⟨0, Nat.zero_le _, rfl, Below.refl _ _⟩
  case round =>
    obtain ⟨k, hk, rfl, hbel⟩ := hrel
    by_cases hlt : k < len
    · obtain ⟨b, o, rfl, hbb, hc⟩ := HA.out (by omega)
      obtain ⟨b2, o2, rfl, hbb2, hc2⟩ := HA2.out (by omega)
      obtain ⟨x, hx⟩ : ∃ x, l[k]? = some x := ⟨_, List.getElem?_eq_getElem (by rw [HL.out]; exact hlt)⟩
      have a0 : wr.cell? ⟨b, o + k, none⟩ = some (.int .i64 x) := (hbel.cell (p := ⟨b, _, none⟩) hbb).trans (by simpa using hc k x hx 0 _ rfl)
      have a1 : wr.cell? ⟨b2, o2 + k, none⟩ = some (.int .i64 x) := (hbel.cell (p := ⟨b2, _, none⟩) hbb2).trans (by simpa using hc2 k x hx 0 _ rfl)
      have tx : (x != x) = false := by simp
      clear hx hc hc2
      go_wp2_with fail
      go_quiet (fail)
      go_wp2
      go_roundw
      case rel => exact ⟨k + 1, by omega, by go_num, below_drewN hbel nq⟩
      case measure => simp [intOf]; omega
    · obtain rfl : k = len := by omega
      go_wp2
      go_ret
      exact ⟨rfl, hbel⟩
end Go.Proofs.Ytbholafggbdieaa
