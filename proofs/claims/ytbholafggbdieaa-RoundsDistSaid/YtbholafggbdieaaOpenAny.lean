/- quiet: is a vertex without a label? -/
import Derived.Test.YtbholafggbdieaaClone
namespace Go.Proofs.Ytbholafggbdieaa
open Go.RowKit

theorem quiet1_any (x : Vl) (w : World) :
    Calls Try.prog 48 #[.agg #[.int .i64 x.a, .int .i64 x.l]] w fun e w' => e = .returned (.bool (x.l == -1)) ∧ Below w.heap.size w w' := by
  obtain ⟨a, l⟩ := x
  go_enter Try.func48, Try.ntmps48
  go_wp2
  go_ret
  exact ⟨rfl, Below.of_alloc _ _⟩

def openB (l : List Vl) : Bool := l.any (fun x => x.l == -1)
def IdxR (l : List Vl) (w : World) (e : Ending) (w' : World) : Prop := ∃ i : Int, e = .returned (.int .i64 i) ∧ decide (0 ≤ i) = openB l ∧ Below w.heap.size w w'

set_option maxRecDepth 10000 in
set_option maxHeartbeats 1000000 in
theorem index_any (l : List Vl) (v : Value) (w : World) (hv : Sl 2 encV w w.heap.size v l) :
    Calls Try.prog 64 #[v, .func (.func 48) #[] #[]] w (IdxR l w) := by
  obtain ⟨A, c, rfl, hac, hcm, hA⟩ := hv
  unfold maxLen at hcm
  have HA := Lib.hid hA; clear hA
  generalize hlen : l.length = len at *
  have HL := Lib.hid hlen; clear hlen
  go_enter Try.func64, Try.ntmps64
  go_wp2
  go_loopw [5, 8] (fun _ i wr => ∃ k : Nat, k ≤ len ∧ i = .int .i64 k ∧ Hid (openB (l.take k) = false) ∧ Below w.heap.size w wr) (fun _ i _ => len - (intOf i).toNat)
  case atStart => exact ⟨0, Nat.zero_le _, rfl, by simp [Hid, openB], Below.refl _ _⟩
  case round =>
    obtain ⟨k, hk, rfl, hno, hbel⟩ := hrel
    have hB := hbel.size
    by_cases hlt : k < len
    · obtain ⟨b, o, rfl, hbb, hc⟩ := HA.out (by omega)
      obtain ⟨x, hx⟩ : ∃ x, l[k]? = some x := ⟨_, List.getElem?_eq_getElem (by rw [HL.out]; exact hlt)⟩
      have a0 := (hbel.cell (p := ⟨b, o + k * 2, none⟩) hbb).trans (hc k x hx 0 _ rfl)
      have a1 := (hbel.cell (p := ⟨b, o + k * 2 + 1, none⟩) hbb).trans (hc k x hx 1 _ rfl)
      have HX := Lib.hid hx
      have Q1 := Lib.hid (fun W => quiet1_any x W)
      clear hx hc
      obtain ⟨xa, xl⟩ := x
      cases hq : (xl == -1)
      · have HQ := Lib.hid hq
        go_wp2_with (go_at_call 48; refine (Q1.out _).mono ?_; rintro e w2 ⟨rfl, hb2⟩)
        go_roundw
        case rel => exact ⟨k + 1, by omega, by go_num, by unfold Hid openB; rw [List.take_add_one, HX.out, List.any_append]; have := hno.out; unfold openB at this; rw [this]; simpa using HQ.out, hbel.trans (hb2.mono hB)⟩
        case measure => simp [intOf]; omega
      · have YES : Hid (openB l = true) := by unfold Hid openB; rw [List.any_eq_true]; exact ⟨_, List.mem_of_getElem? HX.out, hq⟩
        go_wp2_with (go_at_call 48; refine (Q1.out _).mono ?_; rintro e w2 ⟨rfl, hb2⟩)
        go_ret
        exact ⟨k, rfl, by rw [YES.out]; simp, hbel.trans (hb2.mono hB)⟩
    · obtain rfl : k = len := by omega
      have NO : Hid (openB l = false) := by have := hno.out; rwa [List.take_of_length_le (by rw [HL.out]; exact Nat.le_refl _)] at this
      clear hno
      go_wp2
      go_ret
      exact ⟨-1, rfl, by rw [NO.out]; rfl, hbel⟩

theorem contains_any (l : List Vl) (v : Value) (w : World) (hv : Sl 2 encV w w.heap.size v l) :
    Calls Try.prog 47 #[v, .func (.func 48) #[] #[]] w fun e w' => e = .returned (.bool (openB l)) ∧ Below w.heap.size w w' := by
  have IX := Lib.hid (index_any l v w hv)
  go_enter Try.func47, Try.ntmps47
  go_wp2_with fail
  refine IX.out.mono ?_
  rintro e w1 ⟨i, rfl, hi, hb⟩
  have HI := Lib.hid hi
  clear hi
  go_wp2
  go_ret
  exact ⟨by rw [← HI.out]; rfl, hb⟩
end Go.Proofs.Ytbholafggbdieaa
