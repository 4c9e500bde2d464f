/- The job of raw numbers is a good one; the same with its edges in another order. No program in sight. -/
import Derived.Test.YtbholafggbdieaaRoundEnd
import Derived.Test.YtbholafggbdieaaJob
namespace Go.Proofs.Ytbholafggbdieaa
open Go.RowKit

theorem wyE_good {n : Int} (hn : 1 ≤ n) (x : Wy) : goodE n (wyE n x) = true ∧ (wyE n x).g < 10 := by
  have a := pick_range x.f n (by omega)
  have b := pick_range x.t n (by omega)
  have c := pick_range x.g 10 (by decide)
  refine ⟨?_, c.2⟩
  unfold goodE insB wyE
  simp only [Bool.and_eq_true, decide_eq_true_eq]
  exact ⟨⟨a.1, a.2⟩, ⟨b.1, b.2⟩, c.1, by omega⟩
theorem madeE_mem {n : Int} {ws : List Wy} {k : Nat} {e : Ed} (h : e ∈ madeE n ws k) : ∃ x, e = wyE n x := by
  unfold madeE at h
  obtain ⟨x, _, rfl⟩ := List.mem_map.1 h
  exact ⟨x, rfl⟩
theorem job_of {n : Int} {es : List Ed} {kind src : Int} (h1 : 1 ≤ n) (h8 : n ≤ 8) (hl : es.length ≤ 20) (he : ∀ e ∈ es, goodE n e = true ∧ e.g < 10) (hk : kind = 1 ∨ kind = 2 ∨ kind = 3) (hs : 0 ≤ src ∧ src < n) : GoodJ ⟨n, es, kind, src⟩ ∧ SmallJ ⟨n, es, kind, src⟩ := by
  refine ⟨⟨h1, ?_, hk, fun _ => hs⟩, ⟨?_, fun e h => (he e h).2⟩⟩
  · show checkG n es = 0
    unfold checkG allG
    rw [if_neg (by omega), if_pos]
    rw [List.all_eq_true]
    exact fun e h => (he e h).1
  · show n.toNat * (2 * es.length) ≤ 4000
    have := Nat.mul_le_mul (show n.toNat ≤ 8 by omega) (show 2 * es.length ≤ 40 by omega)
    omega
theorem jobG_good (n0 : Int) (ws : List Wy) (kind src : Int) : GoodJ (jobG n0 ws kind src) ∧ SmallJ (jobG n0 ws kind src) ∧ (jobG n0 ws kind src).n ≤ 8 ∧ (jobG n0 ws kind src).es.length ≤ 10 ∧ (∀ e ∈ (jobG n0 ws kind src).es, goodE (jobG n0 ws kind src).n e = true ∧ e.g < 10) := by
  have a := pick_range n0 6 (by decide)
  have b := pick_range kind 3 (by decide)
  have c := pick_range src (1 + pickG n0 6) (by omega)
  have hl : (madeE (1 + pickG n0 6) ws (min ws.length 10)).length ≤ 10 := by unfold madeE; rw [List.length_map, List.length_take]; omega
  have he : ∀ e ∈ madeE (1 + pickG n0 6) ws (min ws.length 10), goodE (1 + pickG n0 6) e = true ∧ e.g < 10 := by
    intro e h
    obtain ⟨x, rfl⟩ := madeE_mem h
    exact wyE_good (by omega) x
  obtain ⟨g1, g2⟩ := job_of (n := 1 + pickG n0 6) (es := madeE (1 + pickG n0 6) ws (min ws.length 10)) (kind := 1 + pickG kind 3) (src := pickG src (1 + pickG n0 6)) (by omega) (by omega) (by omega) he (by omega) c
  exact ⟨g1, g2, by show 1 + pickG n0 6 ≤ 8; omega, hl, he⟩
/-- The job with its edges turned: those from t on, and all of them. -/
def turnJ (j : Jb) (t : Nat) : Jb := ⟨j.n, j.es.drop t ++ j.es, j.kind, j.src⟩
theorem turn_sim (j : Jb) (t : Nat) : SimJ j (turnJ j t) :=
  ⟨rfl, rfl, rfl, fun e => by
    show e ∈ j.es.drop t ++ j.es ↔ e ∈ j.es
    rw [List.mem_append]
    exact ⟨fun h => h.elim List.mem_of_mem_drop id, Or.inr⟩⟩
theorem turn_good {j : Jb} (hj : GoodJ j) (hn : j.n ≤ 8) (hl : j.es.length ≤ 10) (he : ∀ e ∈ j.es, goodE j.n e = true ∧ e.g < 10) (hs : 0 ≤ j.src ∧ j.src < j.n) (t : Nat) : GoodJ (turnJ j t) ∧ SmallJ (turnJ j t) := by
  refine job_of hj.n0 hn ?_ ?_ hj.kind hs
  · rw [List.length_append, List.length_drop]; omega
  · intro e h
    exact he e (((turn_sim j t).es e).1 h)
end Go.Proofs.Ytbholafggbdieaa
