/- rounds.Begin. -/
import Derived.Test.YtbholafggbdieaaJob
import Derived.Deep.OwnRows
namespace Go.Proofs.Ytbholafggbdieaa
open Go.RowKit

def beginG (j : Jb) : Stt := ⟨0, 0, true, false, List.replicate j.n.toNat ⟨-1, -1⟩, List.replicate j.n.toNat []⟩
def StepR (s : Stt) (w : World) (e : Ending) (w' : World) : Prop := ∃ vv mv, e = .returned (.tuple #[.agg (stV s vv mv), .int .i64 0]) ∧ FreshSt w.heap.size w' s vv mv ∧ Below w.heap.size w w'
theorem infoRow : (Try.prog.info? 38).map (fun i => (i.zero, i.size, i.bytes)) = some (some (.slice none 0 0), 1, 24) := by kernel_rfl
theorem infoVal : (Try.prog.info? 40).map (fun i => (i.zero, i.size, i.bytes)) = some (some (.agg #[.int .i64 0, .int .i64 0]), 2, 16) := by kernel_rfl

/-- Six cells of a block written anew. -/
def put6 (W : World) (R : Nat) (a0 a1 a2 a3 a4 a5 : Value) : World :=
  (((((W.setCell ⟨R, 0, none⟩ a0).setCell ⟨R, 1, none⟩ a1).setCell ⟨R, 2, none⟩ a2).setCell ⟨R, 3, none⟩ a3).setCell ⟨R, 4, none⟩ a4).setCell ⟨R, 5, none⟩ a5
theorem put6_bk {W : World} {R : Nat} {t : TypeId} {b0 b1 b2 b3 b4 b5 : Value} (h : Bk W R t #[b0, b1, b2, b3, b4, b5]) (a0 a1 a2 a3 a4 a5 : Value) : Bk (put6 W R a0 a1 a2 a3 a4 a5) R t #[a0, a1, a2, a3, a4, a5] :=
  (((((h.set 0 a0).set 1 a1).set 2 a2).set 3 a3).set 4 a4).set 5 a5
theorem put6_far {W : World} {R g : Nat} {t : TypeId} {cs : Array Value} (h : Bk W g t cs) (hg : g ≠ R) (a0 a1 a2 a3 a4 a5 : Value) : Bk (put6 W R a0 a1 a2 a3 a4 a5) g t cs :=
  (((((h.far (by exact hg) a0).far (by exact hg) a1).far (by exact hg) a2).far (by exact hg) a3).far (by exact hg) a4).far (by exact hg) a5
theorem put6_below {B : Nat} {w W : World} {R : Nat} (h : Below B w W) (hR : B ≤ R) (a0 a1 a2 a3 a4 a5 : Value) : Below B w (put6 W R a0 a1 a2 a3 a4 a5) :=
  (((((h.setCell (p := ⟨R, 0, none⟩) hR a0).setCell (p := ⟨R, 1, none⟩) hR a1).setCell (p := ⟨R, 2, none⟩) hR a2).setCell (p := ⟨R, 3, none⟩) hR a3).setCell (p := ⟨R, 4, none⟩) hR a4).setCell (p := ⟨R, 5, none⟩) hR a5
theorem put6_own {W : World} {R base : Nat} {e : TypeId} {sz : Nat} {v : Value} {n : Nat} {xs : List Value} (h : W.ownsRow base e sz v n xs) (hR : R < base) (a0 a1 a2 a3 a4 a5 : Value) : (put6 W R a0 a1 a2 a3 a4 a5).ownsRow base e sz v n xs :=
  own_set (own_set (own_set (own_set (own_set (own_set h hR 0 a0) hR 1 a1) hR 2 a2) hR 3 a3) hR 4 a4) hR 5 a5
theorem made_at {n i : Nat} (h : i < n) : (madeCells #[Value.slice none 0 0] n)[i]? = some (.slice none 0 0) := by
  simp [madeCells, h, Nat.mod_one]
theorem mx_made {W : World} {M n : Nat} (h : Bk W M 38 (madeCells #[.slice none 0 0] n)) (hn : n ≤ maxLen) : Mx W W.heap.size (.slice (some ⟨M, 0, none⟩) n n) (List.replicate n []) := by
  refine ⟨List.replicate n (.slice none 0 0), by simp, ⟨some ⟨M, 0, none⟩, n, by simp, by simp, hn, fun _ => ⟨M, 0, rfl, h.lt, fun i x hx j u hu => ?_⟩⟩, fun i u l hu hl => ?_⟩
  · have hi : i < n := by have := (List.getElem?_eq_some_iff.1 hx).1; simpa using this
    have hx' : x = .slice none 0 0 := by rw [List.getElem?_replicate, if_pos hi] at hx; exact (Option.some.inj hx).symm
    match j, hu with
    | 0, hu =>
      simp at hu
      subst hu hx'
      rw [h.cell, Nat.zero_add, Nat.mul_one, Nat.add_zero]
      exact made_at hi
  · have hi : i < n := by have := (List.getElem?_eq_some_iff.1 hu).1; simpa using this
    rw [List.getElem?_replicate, if_pos hi] at hu hl
    cases hu
    cases hl
    exact Sl.nil _ _

set_option maxRecDepth 10000 in
set_option maxHeartbeats 1000000 in
theorem begin_any (j : Jb) (hj : GoodJ j) (ev : Value) (w : World) (he : Sl 3 encE w w.heap.size ev j.es) :
    Calls Try.prog 10 #[.agg #[.int .i64 j.n, ev, .int .i64 j.kind, .int .i64 j.src]] w (StepR (beginG j) w) := by
  have CK := Lib.hid (fun W (hb : Below w.heap.size w W) => rcheck_any j hj ev W (he.old hb))
  have hn0 := hj.n0
  have hn1 := hj.top
  unfold beginG
  obtain ⟨ni, es, kind, src⟩ := j
  obtain ⟨n, rfl⟩ : ∃ n : Nat, ni = (n : Int) := ⟨ni.toNat, by simp only at hn0; omega⟩
  simp only [Int.toNat_natCast] at hn0 hn1 CK ⊢
  clear hj he
  obtain ⟨i0, hi0, hz0, hz1, hz2⟩ := info_parts infoVal
  have hmk := fun W => run_make_row' (P := Try.prog) 30 38 (.slice none 0 0) 24 Try.underlying30 infoRow rfl .i64 .i64 n (by omega) (by omega) W
  have t0 : ((n : Int) == 0) = false := by simp; omega
  go_enter Try.func10, Try.ntmps10
  go_wp2_with fail
  refine (CK.out _ (below_two _ _ _)).mono ?_
  rintro e w1 ⟨rfl, hb1⟩
  have jb := ((Bk.new w 27 #[.int .i64 n, ev, .int .i64 kind, .int .i64 src]).alloc (.cells #[.int .i64 0, .int .i64 0, .bool false, .bool false, .slice none 0 0, .slice none 0 0] 32)).old hb1
  have rb := (cellr w (.cells #[.int .i64 n, ev, .int .i64 kind, .int .i64 src] 27) #[.int .i64 0, .int .i64 0, .bool false, .bool false, .slice none 0 0, .slice none 0 0] 32).old hb1
  have j0 := jb.cell 0
  simp only [List.getElem?_toArray] at j0
  have j0b := fun o o' => ((jb.alloc o).alloc o').cell 0
  simp only [List.getElem?_toArray] at j0b
  have HB := Lib.hid ((below_two w _ _).trans (hb1.mono (by simp; omega)))
  have JB := Lib.hid jb; have RB := Lib.hid rb
  clear hb1 jb rb
  go_wp2
  clear j0b hmk
  go_loopw [20] (fun i wr => ∃ k v, k ≤ n ∧ i = .int .i64 (k : Nat) ∧ Bk wr w1.heap.size 38 (madeCells #[.slice none 0 0] n) ∧ Bk wr (w1.heap.size + 1) 32 #[.int .i64 0, .int .i64 0, .bool true, .bool false, v, .slice (some ⟨w1.heap.size, 0, none⟩) n n] ∧
    wr.ownsRow (w1.heap.size + 2) 40 2 v k ((List.replicate k (⟨-1, -1⟩ : Vl)).flatMap encV) ∧ Below w1.heap.size w1 wr) (fun i _ => n - (intOf i).toNat)
  case atStart => exact ⟨0, _, Nat.zero_le _, rfl, (Bk.new _ _ _).alloc _, cellr _ _ _ _, World.ownsRow_nil _ _ _ _, below_two _ _ _⟩
  case round =>
    obtain ⟨k, v, hk, rfl, hm, hs, hown, hbel⟩ := hrel
    have hB := hbel.size
    have hslt := hs.lt
    have s4 := hs.cell 4
    have sf4 := hs.froz 4
    simp only [List.getElem?_toArray] at s4
    by_cases hlt : k < n
    · have s4b := fun o => (hs.alloc o).cell 4
      simp only [List.getElem?_toArray] at s4b
      have HM := Lib.hid hm; have HS := Lib.hid hs
      clear hm hs
      go_wp2_with (at_builtin; refine wpList_append_own _ rfl _ _ 29 rfl (w1.heap.size + 2) 40 i0 (.agg #[.int .i64 0, .int .i64 0]) 2 16 Try.underlying29 hi0 hz0 hz1 hz2 rfl (by decide) v k _ rfl (own_old hown (Below.of_alloc _ _)) ⟨wr.heap.size, 0, none⟩ 1 1 (encV ⟨-1, -1⟩) rfl rfl ?_ ?_ ?_ ?_ ?_ ?_)
      · intro j u hj
        have := (Bk.new wr 40 #[.int .i64 (-1), .int .i64 (-1)]).cell j
        rw [show (⟨wr.heap.size, 0, none⟩ : Addr).add j = ⟨wr.heap.size, j, none⟩ by unfold Addr.add; split <;> simp_all, this]
        simpa [encV] using hj
      · intro u hu
        simp [encV] at hu
        rcases hu with rfl | rfl <;> rfl
      · unfold maxLen; omega
      · omega
      · rw [World.size_alloc]; omega
      intro v2 W2 hown2 hgrow hat
      have hvb : ∀ g, v.ownBlock = some g → w1.heap.size + 2 ≤ g := fun g e => (hown.lt g e).1
      have hne : ∀ g, g < w1.heap.size + 2 → some g ≠ v.ownBlock := fun g hg e => by have := hvb g e.symm; omega
      have hm2 := (HM.out.alloc (.cells #[.int .i64 (-1), .int .i64 (-1)] 40)).grown hgrow (hne _ (by omega))
      have hs2 := (HS.out.alloc (.cells #[.int .i64 (-1), .int .i64 (-1)] 40)).grown hgrow (hne _ (by omega))
      have hb2 : Below w1.heap.size w1 W2 := (hbel.alloc hB _).grown hgrow (by rw [World.size_alloc]; omega) (fun g e => by have := hvb g e; omega)
      have c4 := hs2.cell 4
      have f4 := hs2.froz 4
      simp only [List.getElem?_toArray] at c4
      have hv2 : ∃ A2 c2, v2 = .slice A2 (k + 1) c2 := by
        rcases hown2.2 with ⟨rfl, h0⟩ | ⟨_, _, _, rfl, _⟩
        · omega
        · exact ⟨_, _, rfl⟩
      obtain ⟨A2, c2, rfl⟩ := hv2
      have F1 : Hid (W2.ownsRow (w1.heap.size + 2) 40 2 (.slice A2 (k + 1) c2) (k + 1) ((List.replicate (k + 1) (⟨-1, -1⟩ : Vl)).flatMap encV)) := by
        unfold Hid; rw [List.replicate_succ', List.flatMap_append, List.flatMap_cons, List.flatMap_nil, List.append_nil]; exact hown2
      have F2 := Lib.hid (own_set F1.out (show w1.heap.size + 1 < w1.heap.size + 2 by omega) 4 (.slice A2 (k + 1) c2))
      have HM2 := Lib.hid (hm2.far (p := ⟨w1.heap.size + 1, 4, none⟩) (by simp) (.slice A2 (k + 1) c2))
      have HS2 := Lib.hid (hs2.set 4 (.slice A2 (k + 1) c2))
      have HB2 := Lib.hid (hb2.setCell (p := ⟨w1.heap.size + 1, 4, none⟩) (by simp) (.slice A2 (k + 1) c2))
      clear hown2 hgrow hat hown hvb hne hm2 hs2 hb2 s4 s4b sf4
      go_wp2
      go_roundw
      case rel => exact ⟨k + 1, _, by omega, by go_num, HM2.out, HS2.out, F2.out, HB2.out⟩
      case measure => simp [intOf]; omega
    · obtain rfl : k = n := by omega
      have JBr := JB.out.old hbel
      have RBr := RB.out.old hbel
      have j0 := JBr.cell 0
      simp only [List.getElem?_toArray] at j0
      have hv2 : ∃ A2 c2, v = .slice A2 k c2 := by
        rcases hown.2 with ⟨rfl, h0⟩ | ⟨_, _, _, rfl, _⟩
        · omega
        · exact ⟨_, _, rfl⟩
      obtain ⟨A2, c2, rfl⟩ := hv2
      have s0 := hs.cell 0
      have s1 := hs.cell 1
      have s2 := hs.cell 2
      have s3 := hs.cell 3
      have s5 := hs.cell 5
      have r0 := RBr.cell 0
      have r1 := RBr.cell 1
      have r2 := RBr.cell 2
      have r3 := RBr.cell 3
      have r4 := RBr.cell 4
      have r5 := RBr.cell 5
      have f0 := RBr.froz 0
      have f1 := RBr.froz 1
      have f2 := RBr.froz 2
      have f3 := RBr.froz 3
      have f4 := RBr.froz 4
      have f5 := RBr.froz 5
      simp only [List.getElem?_toArray] at s0 s1 s2 s3 s5 r0 r1 r2 r3 r4 r5
      have RE := Lib.hid RBr; have HM := Lib.hid hm; have HO := Lib.hid hown
      have HBW := Lib.hid (HB.out.trans (hbel.mono HB.out.size))
      clear JBr RBr hm hs hown
      go_wp2
      change bodyPost _ _ _ _ _ (put6 wr (w.heap.size + 1) (.int .i64 0) (.int .i64 0) (.bool true) (.bool false) (.slice A2 k c2) (.slice (some ⟨w1.heap.size, 0, none⟩) k k))
      have hR : w.heap.size + 1 < w1.heap.size := RB.out.lt
      have P := put6_bk RE.out (.int .i64 0) (.int .i64 0) (.bool true) (.bool false) (.slice A2 k c2) (.slice (some ⟨w1.heap.size, 0, none⟩) k k)
      have d0 := P.cell 0
      have d1 := P.cell 1
      have d2 := P.cell 2
      have d3 := P.cell 3
      have d4 := P.cell 4
      have d5 := P.cell 5
      simp only [List.getElem?_toArray] at d0 d1 d2 d3 d4 d5
      refine bodyPost_ret (v := .tuple #[.agg #[.int .i64 0, .int .i64 0, .bool true, .bool false, .slice A2 k c2, .slice (some ⟨w1.heap.size, 0, none⟩) k k], .int .i64 0]) ?_ rfl ⟨_, _, rfl, fun W9 hW9 hk9 => ⟨?_, ?_⟩, put6_below HBW.out (by omega) _ _ _ _ _ _⟩
      · simp [results, Try.f10, go_sem, d0, d1, d2, d3, d4, d5]
      · refine Sl.of_own (base := w1.heap.size + 2) (e := 40) (fun _ => rfl) ?_
        simp only [List.length_replicate]
        exact own_from (put6_own HO.out (by omega) _ _ _ _ _ _) (by omega) hk9
      · exact mx_made (Bk.from (put6_far HM.out (by omega) _ _ _ _ _ _) (by omega) hk9) (by unfold maxLen; omega)
end Go.Proofs.Ytbholafggbdieaa
