/- graph.Check: what it answers of every graph. -/
import Derived.Test.YtbholafggbdieaaProg
import Derived.Test.YtbholafggbdieaaData
import Derived.WalkSpells
import Derived.WalkLawsBesides
import Derived.Outline
namespace Go.Proofs.Ytbholafggbdieaa
open Go.RowKit

structure Ed where
  (f t g : Int)
def encE (e : Ed) : List Value := [.int .i64 e.f, .int .i64 e.t, .int .i64 e.g]
def insB (n v : Int) : Bool := decide (0 ≤ v) && decide (v < n)
def goodE (n : Int) (e : Ed) : Bool := insB n e.f && (insB n e.t && (decide (0 ≤ e.g) && decide (e.g ≤ 1099511627776)))
def allG (n : Int) (es : List Ed) : Int := if es.all (goodE n) then 0 else 2
def checkG (n : Int) (es : List Ed) : Int := if n < 0 ∨ 200 < n ∨ 600 < es.length then 1 else allG n es

theorem inside_any (n v : Int) (bk : Nat) (w : World) (hn : w.cell? ⟨bk, 0, none⟩ = some (.int .i64 n)) :
    Calls Try.prog 49 #[.int .i64 v, .pointer (some ⟨bk, 0, none⟩)] w fun e w' => e = .returned (.bool (insB n v)) ∧ w' = w := by
  have H : Hid (insB n v = (decide (0 ≤ v) && decide (v < n))) := rfl
  go_enter Try.func49, Try.ntmps49
  go_wp2
  all_goals go_ret
  all_goals refine ⟨?_, rfl⟩
  all_goals (rw [H.out]; simp; try omega)

theorem check_size (n : Int) (A : Option Addr) (len c : Nat) (w : World) (h : n < 0 ∨ 200 < n ∨ 600 < len) (hl : len ≤ maxLen) :
    Calls Try.prog 35 #[.agg #[.int .i64 n, .slice A len c]] w fun e w' => e = .returned (.int .i64 1) ∧ Below w.heap.size w w' := by
  unfold maxLen at hl
  by_cases h0 : n < 0
  · clear h
    go_enter Try.func35, Try.ntmps35
    go_wp2
    go_ret
    exact ⟨rfl, (Below.refl _ _).alloc (Nat.le_refl _) _⟩
  · have h0' : 0 ≤ n := by omega
    by_cases h2 : 200 < n
    · clear h
      go_enter Try.func35, Try.ntmps35
      go_wp2
      go_ret
      exact ⟨rfl, (Below.refl _ _).alloc (Nat.le_refl _) _⟩
    · have h2' : n ≤ 200 := by omega
      have h6 : 600 < len := by omega
      clear h
      go_enter Try.func35, Try.ntmps35
      go_wp2
      go_ret
      exact ⟨rfl, (Below.refl _ _).alloc (Nat.le_refl _) _⟩

theorem good_parts {n : Int} {e : Ed} (h : goodE n e = true) : insB n e.f = true ∧ insB n e.t = true ∧ 0 ≤ e.g ∧ e.g ≤ 1099511627776 := by
  simpa [goodE] using h
theorem bad_parts {n : Int} {e : Ed} (h : goodE n e = false) : insB n e.f = false ∨ (insB n e.f = true ∧ insB n e.t = false) ∨ (insB n e.f = true ∧ insB n e.t = true ∧ e.g < 0) ∨ (insB n e.f = true ∧ insB n e.t = true ∧ 0 ≤ e.g ∧ 1099511627776 < e.g) := by
  unfold goodE at h
  cases h1 : insB n e.f <;> cases h2 : insB n e.t <;> simp [h1, h2] at h ⊢
  omega
theorem all_take {α : Type} {p : α → Bool} {l : List α} {k : Nat} {x : α} (h : (l.take k).all p = true) (hx : l[k]? = some x) (hp : p x = true) : (l.take (k + 1)).all p = true := by
  rw [List.take_add_one, hx]; simp_all
theorem all_not {α : Type} {p : α → Bool} {l : List α} {k : Nat} {x : α} (hx : l[k]? = some x) (hp : p x = false) : l.all p = false := by
  rw [List.all_eq_false]
  exact ⟨x, List.mem_of_getElem? hx, by simp [hp]⟩

set_option maxHeartbeats 1000000 in
theorem check_run (n : Int) (es : List Ed) (v : Value) (w : World) (hv : Sl 3 encE w w.heap.size v es) (h0 : 0 ≤ n) (h2 : n ≤ 200) (hl : es.length ≤ 600) :
    Calls Try.prog 35 #[.agg #[.int .i64 n, v]] w fun e w' => e = .returned (.int .i64 (allG n es)) ∧ Below w.heap.size w w' := by
  obtain ⟨A, c, rfl, _, _, hA⟩ := hv
  generalize hlen : es.length = len at *
  have HL := Lib.hid hlen; clear hlen
  have HA := Lib.hid hA; clear hA
  have h6 : decide ((600 : Int) < (len : Int)) = false := by simp; omega
  go_enter Try.func35, Try.ntmps35
  go_wp2
  go_loopw [5, 24] (fun q i wr => ∃ k : Nat, k ≤ len ∧ i = .int .i64 k ∧ Hid ((es.take k).all (goodE n) = true) ∧ Below w.heap.size w wr ∧ wr.cell? ⟨w.heap.size, 0, none⟩ = some (.int .i64 n) ∧ w.heap.size < wr.heap.size) (fun q i wr => len - (intOf i).toNat)
  case atStart => exact ⟨0, Nat.zero_le _, rfl, by simp [Hid], (Below.refl _ _).alloc (Nat.le_refl _) _, by simp [go_sem], by simp⟩
  case round =>
    obtain ⟨k, hk, rfl, hall, hbel, hcn, hsz⟩ := hrel
    by_cases hlt : k < len
    · obtain ⟨b, o, rfl, hb, hc⟩ := HA.out (by omega)
      obtain ⟨x, hx⟩ : ∃ x, es[k]? = some x := ⟨_, List.getElem?_eq_getElem (by rw [HL.out]; exact hlt)⟩
      have hc0 := (hbel.cell (p := ⟨b, o + k * 3, none⟩) hb).trans (hc k x hx 0 _ rfl)
      have hc1 := (hbel.cell (p := ⟨b, o + k * 3 + 1, none⟩) hb).trans (hc k x hx 1 _ rfl)
      have hc2 := (hbel.cell (p := ⟨b, o + k * 3 + 2, none⟩) hb).trans (hc k x hx 2 _ rfl)
      have HX := Lib.hid hx; clear hx hc
      have hca := Lib.hid (fun o => (World.cell?_alloc_lt wr o ⟨w.heap.size, 0, none⟩ hsz).trans hcn)
      cases hg : goodE n x
      · have FIN : Hid (allG n es = 2) := by rw [allG, all_not HX.out hg]; rfl
        rcases bad_parts hg with hf | ⟨hf, ht⟩ | ⟨hf, ht, hn⟩ | ⟨hf, ht, hn, hm⟩
        all_goals
          clear hg hall
          go_wp2_with (go_at_call 49; refine (inside_any n _ w.heap.size _ (hca.out _)).mono ?_; rintro e w' ⟨rfl, rfl⟩)
          go_ret
          exact ⟨by rw [FIN.out]; rfl, hbel.alloc (by omega) _⟩
      · obtain ⟨hf, ht, hn, hm⟩ := good_parts hg
        have HG := Lib.hid hg; clear hg
        go_wp2_with (go_at_call 49; refine (inside_any n _ w.heap.size _ (hca.out _)).mono ?_; rintro e w' ⟨rfl, rfl⟩)
        go_roundw
        case rel => exact ⟨k + 1, by omega, by go_num, all_take hall.out HX.out HG.out, hbel.alloc (by omega) _, hca.out _, by simp; omega⟩
        case measure => simp [intOf]; omega
    · obtain rfl : k = len := by omega
      have FIN : Hid (allG n es = 0) := by
        have := hall.out
        rw [List.take_of_length_le (by rw [HL.out]; exact Nat.le_refl _)] at this
        unfold Hid; simp [allG, this]
      clear hall
      go_wp2
      go_ret
      exact ⟨by rw [FIN.out]; rfl, hbel⟩

theorem check_any (n : Int) (es : List Ed) (v : Value) (w : World) (hv : Sl 3 encE w w.heap.size v es) :
    Calls Try.prog 35 #[.agg #[.int .i64 n, v]] w fun e w' => e = .returned (.int .i64 (checkG n es)) ∧ Below w.heap.size w w' := by
  by_cases h : n < 0 ∨ 200 < n ∨ 600 < es.length
  · obtain ⟨A, c, rfl, h1, h2, _⟩ := hv
    rw [checkG, if_pos h]
    exact check_size n A es.length c w h (by omega)
  · rw [checkG, if_neg h]
    exact check_run n es v w hv (by omega) (by omega) (by omega)

/-- The same in a later world. -/
theorem check_in (n : Int) (es : List Ed) (v : Value) (w W : World) (hv : Sl 3 encE w w.heap.size v es) (hb : Below w.heap.size w W) :
    Calls Try.prog 35 #[.agg #[.int .i64 n, v]] W fun e w' => e = .returned (.int .i64 (checkG n es)) ∧ Below W.heap.size W w' :=
  check_any n es v W ((hv.below hb).more hb.size)
end Go.Proofs.Ytbholafggbdieaa
