/- graph.Sorted and graph.Reverse: the walks. -/
import Derived.Test.YtbholafggbdieaaReverse
import Derived.Shelf.SlicesE.Clone
namespace Go.Proofs.Ytbholafggbdieaa
open Go.RowKit Go.Lib

theorem one_edges (l : List Ed) : ∀ u ∈ l.flatMap encE, u.oneCell' = true := by
  intro u hu
  obtain ⟨x, _, hx⟩ := List.mem_flatMap.1 hu
  simp [encE] at hx
  rcases hx with rfl | rfl | rfl <;> rfl
theorem cloneE (b off n c : Nat) (l : List Ed) (w : World) (hl : l.length = n) (hn : n ≤ 100000) (hc : ∀ j u, (l.flatMap encE)[j]? = some u → w.cell? ⟨b, off + j, none⟩ = some u) :
    Calls Try.prog 65 #[.slice (some ⟨b, off, none⟩) n c] w fun e w' => ∃ v', e = .returned v' ∧ w'.ownsRow w.heap.size 46 3 v' n (l.flatMap encE) ∧ v' ≠ .slice none 0 0 ∧ Below w.heap.size w w' := by
  obtain ⟨i0, hi0, hz0, hz1, hz2⟩ := info_parts infoEdge
  exact AnyE.slices_Clone Try.cloneEdge i0 _ 3 24 hi0 hz0 hz1 hz2 rfl (by decide) (fun w => Try.sizeOf46 w) b off n c (l.flatMap encE) w (by rw [← hl]; exact flat_edges l) (by unfold maxLen; omega) (by omega) hc (one_edges l)
/-- The cells of a slice, one behind the other. -/
theorem sl_flat {w : World} {b o : Nat} {l : List Ed} (hc : ∀ i x, l[i]? = some x → ∀ j u, (encE x)[j]? = some u → w.cell? ⟨b, o + i * 3 + j, none⟩ = some u) (j : Nat) (u : Value) (hu : (l.flatMap encE)[j]? = some u) : w.cell? ⟨b, o + j, none⟩ = some u := by
  have hj : j < (l.flatMap encE).length := (List.getElem?_eq_some_iff.1 hu).1
  rw [flat_edges] at hj
  obtain ⟨x, hx⟩ : ∃ x, l[j / 3]? = some x := ⟨_, List.getElem?_eq_getElem (by omega)⟩
  have hm : j % 3 < (encE x).length := Nat.mod_lt _ (by decide)
  have h1 := flat_at (enc := encE) (sz := 3) (fun _ => rfl) l (j / 3) x hx (j % 3) ((encE x)[j % 3]) (List.getElem?_eq_getElem hm) (Nat.mod_lt _ (by decide))
  rw [show j / 3 * 3 + j % 3 = j by omega, hu] at h1
  have h2 := hc (j / 3) x hx (j % 3) ((encE x)[j % 3]) (List.getElem?_eq_getElem hm)
  rw [show o + j / 3 * 3 + j % 3 = o + j by omega] at h2
  rw [h2]; exact h1.symm
def SortedR (n : Nat) (es : List Ed) (w : World) (e : Ending) (w' : World) : Prop := ∃ v, e = .returned (.tuple #[.agg #[.int .i64 n, v], .int .i64 0]) ∧ Sl 3 encE w' w'.heap.size v (sortE es) ∧ Below w.heap.size w w' ∧ ∀ g, v.ownBlock = some g → w.heap.size ≤ g
/-- Edges as they come from an append. -/
def PlainV (v : Value) (n : Nat) : Prop := (v = .slice none 0 0 ∧ n = 0) ∨ ∃ b o c, v = .slice (some ⟨b, o, none⟩) n c

set_option maxRecDepth 10000 in
set_option maxHeartbeats 1000000 in
theorem sorted_any (n : Nat) (es : List Ed) (ev : Value) (w : World) (hg : checkG (n : Int) es = 0) (he : Sl 3 encE w w.heap.size ev es) (hp : PlainV ev es.length) :
    Calls Try.prog 50 #[.agg #[.int .i64 n, ev]] w (SortedR n es w) := by
  have CK := Lib.hid (fun W (hb : Below w.heap.size w W) => check_in n es ev w W he hb)
  obtain ⟨hz0, hn1, hl6, _⟩ := checkG_zero hg
  rw [hg] at CK
  obtain ⟨A, c, e0, hc1, hc2, hA⟩ := he
  have HA := Lib.hid hA
  unfold maxLen at hc2
  clear hg hA
  have XG := Bk.new w 25 #[.int .i64 n, ev]
  have XR := cellr w (.cells #[.int .i64 n, ev] 25) #[.int .i64 0, .slice none 0 0] 25
  have B2 := below_two w (.cells #[.int .i64 n, ev] 25) (.cells #[.int .i64 0, .slice none 0 0] 25)
  have XG2 := Lib.hid (XG.alloc (.cells #[.int .i64 0, .slice none 0 0] 25))
  have XR2 := Lib.hid XR; have HB2 := Lib.hid B2
  clear XG XR B2
  rcases hp with ⟨rfl, hz⟩ | ⟨b, o, c', rfl⟩
  · obtain rfl := List.eq_nil_of_length_eq_zero hz
    have CL := Lib.hid (fun W => AnyE.slices_Clone_nil Try.cloneEdge 0 0 W)
    have SO := Lib.hid (fun fv W => AnyF.slices_SortFunc_none Try.sortEdge none 0 fv W)
    clear e0 hz HA
    go_enter Try.func50, Try.ntmps50
    go_wp2_with fail
    refine (CK.out _ HB2.out).mono ?_
    rintro e w1 ⟨rfl, hb1⟩
    have G1 := XG2.out.old hb1
    have R3 := XR2.out.old hb1
    have g0 : w1.cell? ⟨w.heap.size, 0, none⟩ = some (.int .i64 n) := G1.cell 0
    have g1 : w1.cell? ⟨w.heap.size, 1, none⟩ = some (.slice none 0 0) := G1.cell 1
    have r0 : w1.cell? ⟨w.heap.size + 1, 0, none⟩ = some (.int .i64 0) := R3.cell 0
    have r1 : w1.cell? ⟨w.heap.size + 1, 1, none⟩ = some (.slice none 0 0) := R3.cell 1
    have f0 := R3.froz 0
    have f1 := R3.froz 1
    have B1 := Lib.hid (HB2.out.trans (hb1.mono (by simp; omega)))
    have HR3 := Lib.hid R3
    clear hb1 G1 R3
    go_wp2_with fail
    refine (CL.out _).mono ?_
    rintro e w2 ⟨rfl, rfl⟩
    go_wp2_with fail
    refine (SO.out _ _).mono ?_
    rintro e w3 ⟨rfl, rfl⟩
    go_wp2
    have RE := (HR3.out.set 0 (.int .i64 (n : Int))).set 1 (.slice none 0 0)
    have d0 := (RE.cell 0).trans (show _ = some (Value.int .i64 (n : Int)) from rfl)
    have d1 := (RE.cell 1).trans (show _ = some (Value.slice none 0 0) from rfl)
    refine bodyPost_ret (v := .tuple #[.agg #[.int .i64 n, .slice none 0 0], .int .i64 0]) ?_ rfl ⟨_, rfl, by rw [show sortE [] = [] by simp [sortE]]; exact Sl.nil _ _, (B1.out.setCell (p := ⟨w.heap.size + 1, 0, none⟩) (by simp) _).setCell (p := ⟨w.heap.size + 1, 1, none⟩) (by simp) _, fun g e => by simp [Value.ownBlock] at e⟩
    simp [results, Try.f50, go_sem, d0, d1]
  · injection e0 with e1 e2 e3
    subst e1 e3
    clear e2
    go_enter Try.func50, Try.ntmps50
    go_wp2_with fail
    refine (CK.out _ HB2.out).mono ?_
    rintro e w1 ⟨rfl, hb1⟩
    have G1 := XG2.out.old hb1
    have g1 : w1.cell? ⟨w.heap.size, 1, none⟩ = some (.slice (some ⟨b, o, none⟩) es.length c') := G1.cell 1
    have R1 := Lib.hid (XR2.out.old hb1)
    have HG1 := Lib.hid G1
    have B1 := HB2.out.trans (hb1.mono (by simp; omega))
    have CL := Lib.hid (cloneE b o es.length c' es w1 rfl (by omega) (fun j u hu => sl_flat (w := w1) (fun i x hx j u hu => by
      obtain ⟨b', o', eA, hb, hc⟩ := HA.out (by have := (List.getElem?_eq_some_iff.1 hx).1; omega)
      injection eA with eA
      injection eA with e1 e2
      subst e1 e2
      exact (B1.cell (p := ⟨b, _, none⟩) hb).trans (hc i x hx j u hu)) j u hu))
    have HB1 := Lib.hid B1
    clear hb1 G1 B1
    go_wp2_with fail
    refine CL.out.mono ?_
    rintro e w2 ⟨v', rfl, hown, hne, hb2⟩
    obtain ⟨g, cg, rfl⟩ : ∃ g cg, v' = .slice (some ⟨g, 0, none⟩) es.length cg := by
      rcases hown.2 with ⟨e', _⟩ | ⟨g, cap, cur, e', _⟩
      · exact absurd e' hne
      · exact ⟨_, _, e'⟩
    have hgl := (hown.lt g rfl).1
    have SO := Lib.hid (sortE_any g cg es w2 (by omega) (own_less hown (Nat.zero_le _)))
    have G2 := Lib.hid (HG1.out.old hb2)
    have R2 := Lib.hid (R1.out.old hb2)
    have HB3 := Lib.hid (HB1.out.trans (hb2.mono HB1.out.size))
    have lg := HG1.out.lt; have lr := R1.out.lt
    have l0 := HB1.out.size
    clear hown hne hb2 g1
    go_wp2_with fail
    refine SO.out.mono ?_
    rintro e w3 ⟨rfl, hsl, hch⟩
    have G3 := G2.out.chg hch (by omega)
    have R3 := R2.out.chg hch (by omega)
    have B3 := Lib.hid (HB3.out.trans (hch.below (B := w.heap.size) HB3.out.size (fun k e => by omega)))
    have HSL := Lib.hid hsl; have HR3 := Lib.hid R3
    have g0 : w3.cell? ⟨w.heap.size, 0, none⟩ = some (.int .i64 n) := G3.cell 0
    have r0 : w3.cell? ⟨w.heap.size + 1, 0, none⟩ = some (.int .i64 0) := R3.cell 0
    have r1 : w3.cell? ⟨w.heap.size + 1, 1, none⟩ = some (.slice none 0 0) := R3.cell 1
    have f0 := R3.froz 0
    have f1 := R3.froz 1
    clear hsl hch G3 R3 SO
    go_wp2
    have RE := (HR3.out.set 0 (.int .i64 (n : Int))).set 1 (.slice (some ⟨g, 0, none⟩) es.length cg)
    have d0 := (RE.cell 0).trans (show _ = some (Value.int .i64 (n : Int)) from rfl)
    have d1 := (RE.cell 1).trans (show _ = some (Value.slice (some ⟨g, 0, none⟩) es.length cg) from rfl)
    refine bodyPost_ret (v := .tuple #[.agg #[.int .i64 n, .slice (some ⟨g, 0, none⟩) es.length cg], .int .i64 0]) ?_ rfl ⟨_, rfl, ?_, (B3.out.setCell (p := ⟨w.heap.size + 1, 0, none⟩) (by simp) _).setCell (p := ⟨w.heap.size + 1, 1, none⟩) (by simp) _, fun g' e => by simp [Value.ownBlock] at e; omega⟩
    · simp [results, Try.f50, go_sem, d0, d1]
    · have hne : ∀ g', (Value.slice (some ⟨g, 0, none⟩) es.length cg).ownBlock = some g' → g' ≠ w.heap.size + 1 := fun g' e => by simp [Value.ownBlock] at e; omega
      exact ((HSL.out.set ⟨w.heap.size + 1, 0, none⟩ (.int .i64 (n : Int)) hne).set ⟨w.heap.size + 1, 1, none⟩ (.slice (some ⟨g, 0, none⟩) es.length cg) hne).more (by simp [World.setCell])
end Go.Proofs.Ytbholafggbdieaa
