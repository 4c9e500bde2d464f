/- RoundsDist: the walk. -/
import Derived.Test.YtbholafggbdieaaWeakEnd
import Derived.Test.YtbholafggbdieaaDistWalk
namespace Go.Proofs.Ytbholafggbdieaa
open Go.RowKit

def JobK (w : World) (v2 : Value) (w' : World) : Prop :=
  ∃ p : Nat, v2 = .pointer (some ⟨p, 0, none⟩) ∧ Bk w' p 27 #[.int .i64 0, .slice none 0 0, .int .i64 0, .int .i64 0] ∧ Below w.heap.size w w' ∧ w.heap.size ≤ p
set_option maxRecDepth 10000 in
set_option maxHeartbeats 2000000 in
theorem rdist_any (n0 src : Int) (ws : List Wy) (v : Value) (w : World) (hn : I64 n0) (hsr : I64 src) (hv : Sl 3 encW w w.heap.size v ws) (hw : ∀ x ∈ ws, I64 x.f ∧ I64 x.t ∧ I64 x.g) :
    Calls Try.prog 8 #[.int .i64 n0, v, .int .i64 src] w fun e w' => e = .returned (.bool true) ∧ Below w.heap.size w w' := by
  have a := pick_range n0 8 (by decide)
  have h88 : 1 + pickG n0 8 ≤ 8 := by omega
  have ps := pick_range src (1 + pickG n0 8) (by omega)
  have PK := Lib.hid (fun W => picked_any src (1 + pickG n0 8) hsr (by omega) (by omega) W)
  obtain ⟨hj, hm⟩ := madeJ_good n0 ws 1 (pickG src (1 + pickG n0 8)) (by decide) ps
  have MD := Lib.hid (made_any n0 8 ws v w hn (by decide) (by decide) hv hw)
  generalize madeE (1 + pickG n0 8) ws (min ws.length 10) = es at *
  generalize 1 + pickG n0 8 = ni at *
  obtain ⟨n, rfl⟩ : ∃ n : Nat, ni = (n : Int) := ⟨ni.toNat, by have := hj.n0; simp only at this; omega⟩
  generalize pickG src (n : Int) = pk at *
  obtain ⟨s, rfl⟩ : ∃ s : Nat, pk = (s : Int) := ⟨pk.toNat, by omega⟩
  obtain ⟨K, k1, k2, hdone, hstep, hvl, hans⟩ := dist_ends hj rfl (s := s) rfl
  have hn0 : 1 ≤ n := by have := hj.n0; simp only at this; omega
  have hn8 := hj.top
  simp only [Int.toNat_natCast] at hvl hans k2 hn8
  have RN := Lib.hid (fun ev W he => ran_any ⟨n, es, 1, s⟩ hj hm K hdone (by omega) ev W he)
  have DS := Lib.hid (fun ev W he => dist_any n s es ev W (by omega) (by omega) hj.g he)
  have AN : Hid (∀ far, DsE es n s far → ansG ⟨n, es, 1, s⟩ (itG ⟨n, es, 1, s⟩ K (beginG ⟨n, es, 1, s⟩)) = far) := by
    intro far hl
    exact hans far hl
  simp only at RN
  generalize itG ⟨n, es, 1, s⟩ K (beginG ⟨n, es, 1, s⟩) = st at *
  have HST := Lib.hid hstep
  clear hdone hstep hans hvl hj hm hv hw a
  go_enter Try.func8, Try.ntmps8
  go_wp2_with fail
  refine MD.out.mono ?_
  rintro e w1 ⟨ev, rfl, hsl, hb1, _⟩
  obtain ⟨A0, c0, rfl⟩ := hsl.shape
  have G1 := Bk.new w1 25 #[.int .i64 n, .slice A0 es.length c0]
  have B1 := Below.of_alloc w1 (.cells #[.int .i64 n, .slice A0 es.length c0] 25)
  have sl1 := hsl.old B1
  have HB1 := Lib.hid (hb1.trans (B1.mono hb1.size))
  have sz1 : (w1.alloc (.cells #[.int .i64 n, .slice A0 es.length c0] 25)).heap.size = w1.heap.size + 1 := by simp
  clear hsl hb1 B1
  go_wp2_with fail
  generalize hJ : w1.heap.size = G at *
  generalize (w1.alloc (.cells #[.int .i64 n, .slice A0 es.length c0] 25)) = W1 at *
  clear hJ
  have HSL := Lib.hid sl1; have HG := Lib.hid G1
  have g0 : W1.cell? ⟨G, 0, none⟩ = some (.int .i64 n) := G1.cell 0
  have g1 : W1.cell? ⟨G, 1, none⟩ = some (.slice A0 es.length c0) := G1.cell 1
  have HZ1 := Lib.hid sz1
  clear sl1 G1 sz1
  go_wp2_with fail
  refine wp_region_zs (fun W => W.cell? ⟨G, 0, none⟩ = some (.int .i64 n) ∧ W.cell? ⟨G, 1, none⟩ = some (.slice A0 es.length c0)) [] (by kernel_rfl) ?_
  refine wpZ_batch (is := [0, 1, 2, 3]) (by kernel_rfl) ⟨g0, g1⟩ (a1 := ?_) ?_ ?_
  rotate_left
  · repeat
      (refine SeqY.run (v := ?_) rfl (by rfl) ?_ ?_
       rotate_left
       · (intro W hS; (try dsimp only at hS); go_simp; (try with_reducible rfl)))
    exact SeqY.nil
  refine wpZ_call (i := 4) (k := 6) (is := [5]) (v1 := .int .i64 s) (a1 := ?_) (JobK W1) (by kernel_rfl) rfl rfl rfl rfl ?_ ?_ ?_ ?_
  rotate_left
  · unfold Gives
    go_simp
    refine (PK.out _).mono ?_
    rintro e w9 ⟨rfl, rfl⟩
    refine ⟨_, rfl, rfl, ⟨g0, g1⟩, ?_⟩
    exact ⟨⟨cell_later (w := W1.drew) g0, cell_later (w := W1.drew) g1⟩, _, rfl, Bk.new _ _ _, (Below.refl _ _).drew.alloc (Nat.le_refl _) _, Nat.le_refl _⟩
  · unfold Gives
    go_simp
    refine ⟨⟨cell_later (w := W1.drew) g0, cell_later (w := W1.drew) g1⟩, ?_⟩
    refine (PK.out _).mono ?_
    rintro e w9 ⟨rfl, rfl⟩
    exact ⟨_, rfl, rfl, ⟨cell_later (w := W1.drew) g0, cell_later (w := W1.drew) g1⟩, _, rfl, (Bk.new W1.drew _ _), (Below.refl _ _).drew.alloc (Nat.le_refl _) _, Nat.le_refl _⟩
  · repeat
      (refine SeqY.run (v := ?_) rfl (by rfl) ?_ ?_
       rotate_left
       · (intro W hS; (try dsimp only at hS); go_simp; (try with_reducible rfl)))
    exact SeqY.nil
  intro v2 w2 hS2 hK2
  obtain ⟨p, rfl, hP2, hb2, hpge⟩ := hK2
  have p0 := hP2.cell 0
  have p1 := hP2.cell 1
  have p2 := hP2.cell 2
  have p3 := hP2.cell 3
  have f0 := hP2.froz 0
  have f1 := hP2.froz 1
  have f2 := hP2.froz 2
  have f3 := hP2.froz 3
  simp only [List.getElem?_toArray] at p0 p1 p2 p3
  have GL := HG.out.lt
  have N2 := (((hP2.set 0 (.int .i64 (n : Int))).set 1 (.slice A0 es.length c0)).set 2 (.int .i64 1)).set 3 (.int .i64 (s : Int))
  have BB := (((hb2.setCell (p := ⟨p, 0, none⟩) hpge (.int .i64 (n : Int))).setCell (p := ⟨p, 1, none⟩) hpge (.slice A0 es.length c0)).setCell (p := ⟨p, 2, none⟩) hpge (.int .i64 1)).setCell (p := ⟨p, 3, none⟩) hpge (.int .i64 (s : Int))
  have HN2 := Lib.hid N2; have HBB := Lib.hid BB
  clear N2 BB hP2
  refine wpZ_one (i := 7) (by kernel_rfl) rfl (fun K hK => ?_)
  go_simp
  have GB := HG.out.old HBB.out
  refine hK.out _ _ ⟨GB.cell 0, GB.cell 1⟩ (fun _ => ?_)
  clear hK K p0 p1 p2 p3 f0 f1 f2 f3 hS2 GB
  refine wpZ_done (by kernel_rfl) ?_
  have HN3 : Hid (Bk _ p 27 #[.int .i64 (n : Int), .slice A0 es.length c0, .int .i64 1, .int .i64 (s : Int)]) := HN2.out
  clear HN2
  generalize ((((w2.setCell ⟨p, 0, none⟩ (.int .i64 (n : Int))).setCell ⟨p, 1, none⟩ (.slice A0 es.length c0)).setCell ⟨p, 2, none⟩ (.int .i64 1)).setCell ⟨p, 3, none⟩ (.int .i64 (s : Int))) = W2 at *
  have SL2 := Lib.hid (HSL.out.old HBB.out)
  have HG2 := Lib.hid (HG.out.old HBB.out)
  have HB2 := Lib.hid (HB1.out.trans (HBB.out.mono HB1.out.size))
  have j0 : W2.cell? ⟨p, 0, none⟩ = some (.int .i64 n) := HN3.out.cell 0
  have j1 : W2.cell? ⟨p, 1, none⟩ = some (.slice A0 es.length c0) := HN3.out.cell 1
  have j2 : W2.cell? ⟨p, 2, none⟩ = some (.int .i64 1) := HN3.out.cell 2
  have j3 : W2.cell? ⟨p, 3, none⟩ = some (.int .i64 s) := HN3.out.cell 3
  clear g0 g1 hb2 HBB HSL HG HB1
  go_wp2_with fail
  refine (RN.out _ W2 SL2.out).mono ?_
  rintro e w3 ⟨rv, vv, mv, rfl, hl2, hr2, hb2⟩
  dsimp only [stV]
  obtain ⟨A7, c7, rfl⟩ := hr2.vals.shape
  obtain ⟨A8, c8, rfl⟩ := hr2.mail.shape
  obtain ⟨A9, c9, rfl⟩ := hl2.shape
  have ST := Bk.new w3 32 #[.int .i64 st.step, .int .i64 st.phase, .bool st.fresh, .bool st.done, .slice A7 st.vals.length c7, .slice A8 st.mail.length c8]
  have BA := Below.of_alloc w3 (.cells #[.int .i64 st.step, .int .i64 st.phase, .bool st.fresh, .bool st.done, .slice A7 st.vals.length c7, .slice A8 st.mail.length c8] 32)
  have B3 := hb2.trans (BA.mono hb2.size)
  have SL3 := Lib.hid (SL2.out.old B3)
  have L3 := Lib.hid (hl2.old BA)
  have HB3 := Lib.hid (HB2.out.trans (B3.mono HB2.out.size))
  have HST3 := Lib.hid ST
  have HG3 := Lib.hid (HG2.out.old B3)
  have G2 := HG2.out.old hb2
  have J2 := HN3.out.old hb2
  have gl := G2.lt
  have jl := J2.lt
  have g0 : w3.cell? ⟨G, 0, none⟩ = some (.int .i64 n) := G2.cell 0
  have g1 : w3.cell? ⟨G, 1, none⟩ = some (.slice A0 es.length c0) := G2.cell 1
  have js : w3.cell? ⟨p, 2, none⟩ = some (.int .i64 1) := J2.cell 2
  have js3 : w3.cell? ⟨p, 3, none⟩ = some (.int .i64 s) := J2.cell 3
  clear hl2 hr2 hb2 BA B3 ST G2 J2 j0 j1 j2 j3
  go_wp2_with fail
  generalize hS : w3.heap.size = S at *
  generalize (w3.alloc (.cells #[.int .i64 st.step, .int .i64 st.phase, .bool st.fresh, .bool st.done, .slice A7 st.vals.length c7, .slice A8 st.mail.length c8] 32)) = W3 at *
  clear hS
  refine (DS.out _ W3 SL3.out).mono ?_
  rintro e w4 ⟨wv, far, rfl, hl4, hds, hb4⟩
  obtain ⟨A10, c10, rfl⟩ := hl4.shape
  have G4 := HG3.out.old hb4
  have S4 := HST3.out.old hb4
  have AL := AN.out far hds
  have L4 := L3.out.old hb4
  rw [AL] at L4
  have SI := Lib.hid (sameInts_yes far _ _ w4 L4 hl4)
  have LN := Lib.hid hds.len
  have AL2 := Lib.hid (congrArg List.length AL)
  have B4 := Lib.hid (HB3.out.trans (hb4.mono HB3.out.size))
  have HG4 := Lib.hid G4; have HS4 := Lib.hid S4
  have ltG := G4.lt; have ltS := S4.lt
  rw [AL2.out, LN.out]
  rw [LN.out] at SI
  have d0 : w4.cell? ⟨G, 0, none⟩ = some (.int .i64 n) := G4.cell 0
  have te : ((n : Int) == (n : Int)) = true := by simp
  clear hl4 hb4 G4 S4 hds AL L4
  go_wp2_with fail
  refine SI.out.mono ?_
  rintro e w5 ⟨rfl, hb5⟩
  have G5 := HG4.out.old hb5
  have S5 := HS4.out.old hb5
  have B5 := Lib.hid (B4.out.trans (hb5.mono B4.out.size))
  have e0 : w5.cell? ⟨G, 0, none⟩ = some (.int .i64 n) := G5.cell 0
  have e1 : w5.cell? ⟨S, 0, none⟩ = some (.int .i64 st.step) := S5.cell 0
  rw [HST.out] at e1
  have tk : decide ((K : Int) ≤ (n : Int) + 1) = true := by simpa using k2
  clear d0 hb5 G5 S5
  go_wp2
  go_ret
  exact ⟨rfl, B5.out⟩
end Go.Proofs.Ytbholafggbdieaa
