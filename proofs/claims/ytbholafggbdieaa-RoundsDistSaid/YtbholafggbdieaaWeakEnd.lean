/- RoundsWeak: the walk. -/
import Derived.Test.YtbholafggbdieaaWeakWalk
import Derived.Test.YtbholafggbdieaaJobGood
import Derived.Test.YtbholafggbdieaaRan
import Derived.Test.YtbholafggbdieaaSame
namespace Go.Proofs.Ytbholafggbdieaa
open Go.RowKit

theorem madeJ_good (n0 : Int) (ws : List Wy) (kind src : Int) (hk : kind = 1 ∨ kind = 2 ∨ kind = 3) (hs : 0 ≤ src ∧ src < 1 + pickG n0 8) :
    GoodJ ⟨1 + pickG n0 8, madeE (1 + pickG n0 8) ws (min ws.length 10), kind, src⟩ ∧ SmallJ ⟨1 + pickG n0 8, madeE (1 + pickG n0 8) ws (min ws.length 10), kind, src⟩ := by
  have a := pick_range n0 8 (by decide)
  have hl : (madeE (1 + pickG n0 8) ws (min ws.length 10)).length ≤ 10 := by unfold madeE; rw [List.length_map, List.length_take]; omega
  refine job_of (by omega) (by omega) (by omega) (fun e h => ?_) hk hs
  obtain ⟨x, rfl⟩ := madeE_mem h
  exact wyE_good (by omega) x

set_option maxRecDepth 10000 in
set_option maxHeartbeats 2000000 in
theorem rweak_any (n0 : Int) (ws : List Wy) (v : Value) (w : World) (hn : I64 n0) (hv : Sl 3 encW w w.heap.size v ws) (hw : ∀ x ∈ ws, I64 x.f ∧ I64 x.t ∧ I64 x.g) :
    Calls Try.prog 6 #[.int .i64 n0, v] w fun e w' => e = .returned (.bool true) ∧ Below w.heap.size w w' := by
  have a := pick_range n0 8 (by decide)
  obtain ⟨hj, hm⟩ := madeJ_good n0 ws 2 0 (by decide) (by omega)
  obtain ⟨K, k1, k2, hdone, hstep, hvl, hans⟩ := weak_ends hj rfl
  have MD := Lib.hid (made_any n0 8 ws v w hn (by decide) (by decide) hv hw)
  generalize madeE (1 + pickG n0 8) ws (min ws.length 10) = es at *
  generalize 1 + pickG n0 8 = ni at *
  obtain ⟨n, rfl⟩ : ∃ n : Nat, ni = (n : Int) := ⟨ni.toNat, by have := hj.n0; simp only at this; omega⟩
  have hn0 : 1 ≤ n := by have := hj.n0; simp only at this; omega
  have hn8 := hj.top
  simp only [Int.toNat_natCast] at hvl hans k2 hn8
  have RN := Lib.hid (fun ev W he => ran_any ⟨n, es, 2, 0⟩ hj hm K hdone (by omega) ev W he)
  have WK := Lib.hid (fun ev W he => weak_any n es ev W hn0 hj.g he)
  have AN : Hid (ansG ⟨n, es, 2, 0⟩ (itG ⟨n, es, 2, 0⟩ K (beginG ⟨n, es, 2, 0⟩)) = weakG n es) := by
    unfold Hid; rw [← hans]; rfl
  simp only at RN
  generalize itG ⟨n, es, 2, 0⟩ K (beginG ⟨n, es, 2, 0⟩) = s at *
  rw [AN.out] at RN
  have LN : Hid ((weakG n es).length = n) := by unfold Hid weakG; simp
  generalize weakG n es = want at *
  have HST := Lib.hid hstep
  clear hdone hstep hans hvl hj hm hv hw
  go_enter Try.func6, Try.ntmps6
  go_wp2_with fail
  refine MD.out.mono ?_
  rintro e w1 ⟨ev, rfl, hsl, hb1, _⟩
  obtain ⟨A0, c0, rfl⟩ := hsl.shape
  have G1 := Bk.new w1 25 #[.int .i64 n, .slice A0 es.length c0]
  have B1 := Below.of_alloc w1 (.cells #[.int .i64 n, .slice A0 es.length c0] 25)
  have sl1 := hsl.old B1
  have HB1 := Lib.hid (hb1.trans (B1.mono hb1.size))
  have sz1 : (w1.alloc (.cells #[.int .i64 n, .slice A0 es.length c0] 25)).heap.size = w1.heap.size + 1 := by simp
  clear hsl hb1 B1
  go_wp2_with fail
  generalize hJ : w1.heap.size = G at *
  generalize (w1.alloc (.cells #[.int .i64 n, .slice A0 es.length c0] 25)) = W1 at *
  clear hJ
  have HSL := Lib.hid sl1; have HG := Lib.hid G1
  have g0 : W1.cell? ⟨G, 0, none⟩ = some (.int .i64 n) := G1.cell 0
  have g1 : W1.cell? ⟨G, 1, none⟩ = some (.slice A0 es.length c0) := G1.cell 1
  clear sl1 G1
  go_wp2_with fail
  refine (RN.out _ W1 HSL.out).mono ?_
  rintro e w2 ⟨rv, vv, mv, rfl, hl2, hr2, hb2⟩
  dsimp only [stV]
  obtain ⟨A7, c7, rfl⟩ := hr2.vals.shape
  obtain ⟨A8, c8, rfl⟩ := hr2.mail.shape
  obtain ⟨A9, c9, rfl⟩ := hl2.shape
  have ST := Bk.new w2 32 #[.int .i64 s.step, .int .i64 s.phase, .bool s.fresh, .bool s.done, .slice A7 s.vals.length c7, .slice A8 s.mail.length c8]
  have BA := Below.of_alloc w2 (.cells #[.int .i64 s.step, .int .i64 s.phase, .bool s.fresh, .bool s.done, .slice A7 s.vals.length c7, .slice A8 s.mail.length c8] 32)
  have B3 := hb2.trans (BA.mono hb2.size)
  have G3 := HG.out.old B3
  have SL3 := Lib.hid (HSL.out.old B3)
  have L3 := Lib.hid (hl2.old BA)
  have HB3 := Lib.hid (HB1.out.trans (B3.mono HB1.out.size))
  have HST3 := Lib.hid ST
  have lt2 := hb2.size
  have HG3 := Lib.hid G3
  have G2 := HG.out.old hb2
  have gl := G2.lt
  clear g0 g1
  have g0 : w2.cell? ⟨G, 0, none⟩ = some (.int .i64 n) := G2.cell 0
  have g1 : w2.cell? ⟨G, 1, none⟩ = some (.slice A0 es.length c0) := G2.cell 1
  clear hl2 hr2 hb2 BA B3 ST G2 G3
  go_wp2_with fail
  generalize hS : w2.heap.size = S at *
  generalize (w2.alloc (.cells #[.int .i64 s.step, .int .i64 s.phase, .bool s.fresh, .bool s.done, .slice A7 s.vals.length c7, .slice A8 s.mail.length c8] 32)) = W3 at *
  clear hS
  refine (WK.out _ W3 SL3.out).mono ?_
  rintro e w4 ⟨wv, rfl, hl4, hb4⟩
  obtain ⟨A10, c10, rfl⟩ := hl4.shape
  have G4 := HG3.out.old hb4
  have S4 := HST3.out.old hb4
  have SI := Lib.hid (sameInts_yes want _ _ w4 (L3.out.old hb4) hl4)
  have B4 := Lib.hid (HB3.out.trans (hb4.mono HB3.out.size))
  have HG4 := Lib.hid G4; have HS4 := Lib.hid S4
  have ltG := G4.lt; have ltS := S4.lt
  rw [LN.out]
  rw [LN.out] at SI
  have d0 : w4.cell? ⟨G, 0, none⟩ = some (.int .i64 n) := G4.cell 0
  have te : ((n : Int) == (n : Int)) = true := by simp
  clear hl4 hb4 G4 S4
  go_wp2_with fail
  refine SI.out.mono ?_
  rintro e w5 ⟨rfl, hb5⟩
  have G5 := HG4.out.old hb5
  have S5 := HS4.out.old hb5
  have B5 := Lib.hid (B4.out.trans (hb5.mono B4.out.size))
  have e0 : w5.cell? ⟨G, 0, none⟩ = some (.int .i64 n) := G5.cell 0
  have e1 : w5.cell? ⟨S, 0, none⟩ = some (.int .i64 s.step) := S5.cell 0
  rw [HST.out] at e1
  have tk : decide ((K : Int) ≤ (n : Int) + 1) = true := by simpa using k2
  clear d0 hb5 G5 S5
  go_wp2
  go_ret
  exact ⟨rfl, B5.out⟩
end Go.Proofs.Ytbholafggbdieaa
