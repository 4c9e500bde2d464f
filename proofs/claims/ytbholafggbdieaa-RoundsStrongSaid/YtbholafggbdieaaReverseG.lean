/- graph.Reverse: the walk. -/
import Derived.Test.YtbholafggbdieaaSortedG
namespace Go.Proofs.Ytbholafggbdieaa
open Go.RowKit

theorem back_good {n : Nat} {es : List Ed} (hg : checkG (n : Int) es = 0) : checkG (n : Int) (es.map backE) = 0 := by
  obtain ⟨h0, h1, h2, h3⟩ := checkG_zero hg
  unfold checkG allG
  rw [if_neg (by rw [List.length_map]; omega), if_pos]
  rw [List.all_eq_true]
  intro e he
  obtain ⟨x, hx, rfl⟩ := List.mem_map.1 he
  have := h3 x hx
  simp only [goodE, Bool.and_eq_true] at this ⊢
  exact ⟨this.2.1, this.1, this.2.2⟩

set_option maxRecDepth 10000 in
set_option maxHeartbeats 1000000 in
theorem reverse_any (n : Nat) (es : List Ed) (ev : Value) (w : World) (hg : checkG (n : Int) es = 0) (he : Sl 3 encE w w.heap.size ev es) :
    Calls Try.prog 37 #[.agg #[.int .i64 n, ev]] w (RevR n es w) := by
  have CK := Lib.hid (fun W (hb : Below w.heap.size w W) => check_in n es ev w W he hb)
  have SG := Lib.hid (fun v W h1 h2 => sorted_any n (es.map backE) v W (back_good hg) h1 h2)
  obtain ⟨hz0, hn1, hl6, _⟩ := checkG_zero hg
  rw [hg] at CK
  obtain ⟨A, c, rfl, hc1, hc2, hA⟩ := he
  have HA := Lib.hid hA
  unfold maxLen at hc2
  clear hg hA
  have XG := Bk.new w 25 #[.int .i64 n, .slice A es.length c]
  have XR := cellr w (.cells #[.int .i64 n, .slice A es.length c] 25) #[.int .i64 0, .slice none 0 0] 25
  have B2 := below_two w (.cells #[.int .i64 n, .slice A es.length c] 25) (.cells #[.int .i64 0, .slice none 0 0] 25)
  have XG2 := Lib.hid (XG.alloc (.cells #[.int .i64 0, .slice none 0 0] 25))
  have XR2 := Lib.hid XR; have HB2 := Lib.hid B2
  clear XG XR B2
  obtain ⟨i0, hi0, hz0', hz1, hz2⟩ := info_parts infoEdge
  go_enter Try.func37, Try.ntmps37
  go_wp2_with fail
  refine (CK.out _ HB2.out).mono ?_
  rintro e w1 ⟨rfl, hb1⟩
  have G1 := XG2.out.old hb1
  have g1 : w1.cell? ⟨w.heap.size, 1, none⟩ = some (.slice A es.length c) := G1.cell 1
  have R1 := Lib.hid (XR2.out.old hb1)
  have HG1 := Lib.hid G1
  have HB1 := Lib.hid (HB2.out.trans (hb1.mono (by simp; omega)))
  have l0 := HB1.out.size
  have lr := R1.out.lt
  clear hb1 G1
  go_wp2_with fail
  clear g1
  go_loopw [5, 17] (fun v i wr => ∃ k : Nat, k ≤ es.length ∧ i = .int .i64 k ∧ wr.ownsRow w1.heap.size 46 3 v k (((es.map backE).take k).flatMap encE) ∧ Below w1.heap.size w1 wr) (fun _ i _ => es.length - (intOf i).toNat)
  case atStart => exact ⟨0, Nat.zero_le _, rfl, World.ownsRow_nil _ _ _ _, Below.refl _ _⟩
  case round =>
    obtain ⟨k, hk, rfl, hown, hbel⟩ := hrel
    have hB := hbel.size
    have HOWN := Lib.hid hown; have HBEL := Lib.hid hbel
    by_cases hlt : k < es.length
    · obtain ⟨b, o, rfl, hbb, hc⟩ := HA.out (by omega)
      obtain ⟨x, hx⟩ : ∃ x, es[k]? = some x := ⟨_, List.getElem?_eq_getElem hlt⟩
      have bw := HB1.out.trans (hbel.mono HB1.out.size)
      have a0 := (bw.cell (p := ⟨b, o + k * 3, none⟩) hbb).trans (hc k x hx 0 _ rfl)
      have a1 := (bw.cell (p := ⟨b, o + k * 3 + 1, none⟩) hbb).trans (hc k x hx 1 _ rfl)
      have a2 := (bw.cell (p := ⟨b, o + k * 3 + 2, none⟩) hbb).trans (hc k x hx 2 _ rfl)
      have SN : Hid (((es.map backE).take (k + 1)).flatMap encE = ((es.map backE).take k).flatMap encE ++ encE (backE x)) := by
        unfold Hid
        rw [List.take_add_one, List.getElem?_map, hx, List.flatMap_append]
        simp
      obtain ⟨xf, xt, xg⟩ := x
      simp only at a0 a1 a2 SN
      have OW2 := own_old hown (below_two wr (.cells #[.int .i64 xf, .int .i64 xt, .int .i64 xg] 46) (.cells #[.int .i64 xt, .int .i64 xf, .int .i64 xg] 46))
      have HOW2 := Lib.hid OW2
      clear hx hc bw hown hbel OW2
      go_wp2_with (at_builtin; go_loud (refine wpList_append_own _ rfl _ _ 23 rfl w1.heap.size 46 i0 (.agg #[.int .i64 0, .int .i64 0, .int .i64 0]) 3 24 Try.underlying23 hi0 hz0' hz1 hz2 rfl (by decide) u5 k _ rfl HOW2.out ⟨wr.heap.size + 1, 0, none⟩ 1 1 [.int .i64 xt, .int .i64 xf, .int .i64 xg] rfl rfl ?_ ?_ ?_ ?_ ?_ ?_))
      · intro j' u hj'
        have := (cellr wr (.cells #[.int .i64 xf, .int .i64 xt, .int .i64 xg] 46) #[.int .i64 xt, .int .i64 xf, .int .i64 xg] 46).cell j'
        rw [show (⟨wr.heap.size + 1, 0, none⟩ : Addr).add j' = ⟨wr.heap.size + 1, j', none⟩ by unfold Addr.add; split <;> simp_all, this]
        simpa using hj'
      · simp [Value.oneCell']
      · unfold maxLen; omega
      · omega
      · rw [World.size_alloc, World.size_alloc]; omega
      intro v2 W2 hown2 hgrow hat
      have hvb : ∀ g, u5.ownBlock = some g → w1.heap.size ≤ g := fun g e => (HOWN.out.lt g e).1
      have F1 : Hid (W2.ownsRow w1.heap.size 46 3 v2 (k + 1) (((es.map backE).take (k + 1)).flatMap encE)) := by
        unfold Hid; rw [SN.out]; exact hown2
      have HB3 : Hid (Below w1.heap.size w1 W2) := ((HBEL.out.alloc hB (.cells #[.int .i64 xf, .int .i64 xt, .int .i64 xg] 46)).alloc (by rw [World.size_alloc]; omega) (.cells #[.int .i64 xt, .int .i64 xf, .int .i64 xg] 46)).grown hgrow (by rw [World.size_alloc, World.size_alloc]; omega) (fun g e => hvb g e)
      clear hown2 hgrow hat hvb
      go_wp2
      go_roundw
      case rel => exact ⟨k + 1, by omega, by go_num, F1.out, HB3.out⟩
      case measure => simp [intOf]; omega
    · obtain rfl : k = es.length := by omega
      have LB : (es.map backE).length = es.length := by simp
      rw [List.take_of_length_le (by rw [LB]; exact Nat.le_refl _)] at hown
      have SLV := Sl.of_own (sz := 3) (enc := encE) (l := es.map backE) (fun _ => rfl) (by rw [LB]; exact hown)
      have PV : PlainV u5 (es.map backE).length := by
        rw [LB]
        rcases hown.2 with ⟨e1, e2⟩ | ⟨g, cap, cur, e1, _⟩
        · exact .inl ⟨e1, e2⟩
        · exact .inr ⟨g, 0, cap, e1⟩
      obtain ⟨A9, c9, rfl⟩ : ∃ A9 c9, u5 = .slice A9 es.length c9 := by
        rcases hown.2 with ⟨e1, e2⟩ | ⟨g, cap, cur, e1, _⟩
        · exact ⟨none, 0, by rw [e2]; exact e1⟩
        · exact ⟨_, _, e1⟩
      have SO := Lib.hid (SG.out _ wr SLV PV)
      have G3 := HG1.out.old hbel
      have R3 := Lib.hid (R1.out.old hbel)
      have B3 := Lib.hid (HB1.out.trans (hbel.mono HB1.out.size))
      have g0 : wr.cell? ⟨w.heap.size, 0, none⟩ = some (.int .i64 n) := G3.cell 0
      clear hown hbel SLV PV G3
      go_wp2_with fail
      refine SO.out.mono ?_
      rintro e w4 ⟨sv, rfl, hsl, hb4, hfr⟩
      have R4 := R3.out.old hb4
      obtain ⟨A5, c5, rfl, hk1, hk2, hk3⟩ := hsl
      have HSL := Lib.hid (show Sl 3 encE w4 w4.heap.size (.slice A5 (sortE (es.map backE)).length c5) (sortE (es.map backE)) from ⟨A5, c5, rfl, hk1, hk2, hk3⟩)
      have B5 := Lib.hid (B3.out.trans (hb4.mono B3.out.size))
      have HR4 := Lib.hid R4
      have r0 : w4.cell? ⟨w.heap.size + 1, 0, none⟩ = some (.int .i64 0) := R4.cell 0
      have r1 : w4.cell? ⟨w.heap.size + 1, 1, none⟩ = some (.slice none 0 0) := R4.cell 1
      have f0 := R4.froz 0
      have f1 := R4.froz 1
      have l1 := hB
      have HFR := Lib.hid hfr
      clear hk1 hk2 hk3 hb4 R4 g0 hfr
      go_wp2
      have RE := (HR4.out.set 0 (.int .i64 (n : Int))).set 1 (.slice A5 (sortE (es.map backE)).length c5)
      have d0 := (RE.cell 0).trans (show _ = some (Value.int .i64 (n : Int)) from rfl)
      have d1 := (RE.cell 1).trans (show _ = some (Value.slice A5 (sortE (es.map backE)).length c5) from rfl)
      refine bodyPost_ret (v := .tuple #[.agg #[.int .i64 n, .slice A5 (sortE (es.map backE)).length c5], .int .i64 0]) ?_ rfl ⟨_, sortE (es.map backE), rfl, ?_, by rw [sortE_len, LB], fun e => ?_, (B5.out.setCell (p := ⟨w.heap.size + 1, 0, none⟩) (by simp) _).setCell (p := ⟨w.heap.size + 1, 1, none⟩) (by simp) _⟩
      · simp [results, Try.f37, go_sem, d0, d1]
      · have hne : ∀ g', (Value.slice A5 (sortE (es.map backE)).length c5).ownBlock = some g' → g' ≠ w.heap.size + 1 := fun g' e => by have := HFR.out g' e; omega
        exact ((HSL.out.set ⟨w.heap.size + 1, 0, none⟩ (.int .i64 (n : Int)) hne).set ⟨w.heap.size + 1, 1, none⟩ (.slice A5 (sortE (es.map backE)).length c5) hne).more (by simp [World.setCell])
      · rw [(sortE_perm _).mem_iff, List.mem_map]
        exact ⟨fun ⟨x, h1, h2⟩ => ⟨x, h1, h2.symm⟩, fun ⟨x, h1, h2⟩ => ⟨x, h1, h2.symm⟩⟩
end Go.Proofs.Ytbholafggbdieaa
