/- picked. -/
import Derived.Test.YtbholafggbdieaaData
import Derived.Test.YtbholafggbdieaaProg
import Derived.WalkSpells
import Derived.WalkLawsBesides
import Derived.Outline
namespace Go.Proofs.Ytbholafggbdieaa
open Go.RowKit
def I64 (n : Int) : Prop := -9223372036854775808 ≤ n ∧ n ≤ 9223372036854775807
def pickG (n m : Int) : Int := (if n < 0 then -(n + 1) else n) % m
theorem pick_range (n m : Int) (hm : 0 < m) : 0 ≤ pickG n m ∧ pickG n m < m := ⟨Int.emod_nonneg _ (by omega), Int.emod_lt_of_pos _ hm⟩
theorem picked_any (n m : Int) (hn : I64 n) (hm : 0 < m) (hm1 : m ≤ 9223372036854775807) (w : World) :
    Calls Try.prog 11 #[.int .i64 n, .int .i64 m] w fun e w' => e = .returned (.int .i64 (pickG n m)) ∧ w = w' := by
  obtain ⟨h0, h1⟩ := hn
  have t0 : (m == 0) = false := by simp; omega
  by_cases hn : n < 0
  · have hd : decide (n < 0) = true := by simpa using hn
    go_enter Try.func11, Try.ntmps11
    go_wp2
    go_ret
    refine ⟨?_, rfl⟩
    unfold pickG
    rw [if_pos hn, ← Int.neg_tmod, Int.tmod_eq_emod_of_nonneg (by omega)]
    rfl
  · have hd : decide (n < 0) = false := by simpa using hn
    go_enter Try.func11, Try.ntmps11
    go_wp2
    go_ret
    refine ⟨?_, rfl⟩
    unfold pickG
    rw [if_neg (by omega)]
    rfl
end Go.Proofs.Ytbholafggbdieaa
