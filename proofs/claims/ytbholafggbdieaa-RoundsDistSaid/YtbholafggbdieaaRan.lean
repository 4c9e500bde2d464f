/- ran: a job run to its end, and its answer. -/
import Derived.Test.YtbholafggbdieaaAnswer
namespace Go.Proofs.Ytbholafggbdieaa
open Go.RowKit

def RanR (l : List Int) (s : Stt) (w : World) (e : Ending) (w' : World) : Prop := ∃ v vv mv, e = .returned (.tuple #[v, .agg (stV s vv mv), .bool true]) ∧ Sl 1 encN w' w'.heap.size v l ∧ StR w' s vv mv ∧ Below w.heap.size w w'

structure RanS (t : Nat) (a0 a1 a2 a3 a4 a5 : Value) (w : World) : Prop where
  c0 : w.cell? ⟨t, 0, none⟩ = some a0
  c1 : w.cell? ⟨t, 1, none⟩ = some a1
  c2 : w.cell? ⟨t, 2, none⟩ = some a2
  c3 : w.cell? ⟨t, 3, none⟩ = some a3
  c4 : w.cell? ⟨t, 4, none⟩ = some a4
  c5 : w.cell? ⟨t, 5, none⟩ = some a5
theorem RanS.put6 {t : Nat} {a0 a1 a2 a3 a4 a5 : Value} {w : World} (h : RanS t a0 a1 a2 a3 a4 a5 w) {R : Nat} (hR : t ≠ R) (b0 b1 b2 b3 b4 b5 : Value) : RanS t a0 a1 a2 a3 a4 a5 (put6 w R b0 b1 b2 b3 b4 b5) :=
  ⟨(put6_at (p := ⟨t, 0, none⟩) hR _ _ _ _ _ _).trans h.c0, (put6_at (p := ⟨t, 1, none⟩) hR _ _ _ _ _ _).trans h.c1, (put6_at (p := ⟨t, 2, none⟩) hR _ _ _ _ _ _).trans h.c2, (put6_at (p := ⟨t, 3, none⟩) hR _ _ _ _ _ _).trans h.c3, (put6_at (p := ⟨t, 4, none⟩) hR _ _ _ _ _ _).trans h.c4, (put6_at (p := ⟨t, 5, none⟩) hR _ _ _ _ _ _).trans h.c5⟩
theorem RanS.drew {t : Nat} {a0 a1 a2 a3 a4 a5 : Value} {w : World} (h : RanS t a0 a1 a2 a3 a4 a5 w) : RanS t a0 a1 a2 a3 a4 a5 w.drew := ⟨h.c0, h.c1, h.c2, h.c3, h.c4, h.c5⟩
theorem wanted_none {ops : Array Oper} {o : Oper} (tmps : Array Value) (h : o.guard = none) : Region.wanted o (yielded ops tmps) = true := by simp [Region.wanted, h]
theorem flat_ints (l : List Int) : l.flatMap encN = l.map (.int .i64) := by
  induction l with
  | nil => rfl
  | cons x l ih => rw [List.flatMap_cons, ih]; rfl

set_option maxRecDepth 10000 in
set_option maxHeartbeats 1000000 in
theorem ran_any (j : Jb) (hj : GoodJ j) (hm : SmallJ j) (K : Nat) (hK : (itG j K (beginG j)).done = true) (hK2 : K ≤ 10000) (ev : Value) (w : World) (he : Sl 3 encE w w.heap.size ev j.es) :
    Calls Try.prog 17 #[.agg #[.int .i64 j.n, ev, .int .i64 j.kind, .int .i64 j.src]] w (RanR (ansG j (itG j K (beginG j))) (itG j K (beginG j)) w) := by
  have RN := Lib.hid (fun W (hb : Below w.heap.size w W) => run_any j hj hm K hK hK2 ev W (he.old hb))
  have AN := Lib.hid (fun W (hb : Below w.heap.size w W) vv mv (hr : StR W (itG j K (beginG j)) vv mv) => answer_any j hj (itG j K (beginG j)) (ok_it hj hm (ok_begin hj) K (by have : (beginG j).step = 0 := rfl; omega)).good hK ev vv mv W (he.old hb) hr)
  clear he
  generalize itG j K (beginG j) = s at *
  have HK := Lib.hid hK
  rw [hK] at AN
  clear hK
  go_enter Try.func17, Try.ntmps17
  go_wp2_with fail
  refine (RN.out _ (below_two _ _ _)).mono ?_
  rintro e w1 ⟨vv, mv, rfl, hr1, hb1⟩
  obtain ⟨A7, c7, rfl⟩ := hr1.st.vals.shape
  obtain ⟨A8, c8, rfl⟩ := hr1.st.mail.shape
  dsimp only [stV]
  have jb := ((Bk.new w 27 #[.int .i64 j.n, ev, .int .i64 j.kind, .int .i64 j.src]).alloc (.cells #[.int .i64 0, .int .i64 0, .bool false, .bool false, .slice none 0 0, .slice none 0 0] 32)).old hb1
  have rb := (cellr w (.cells #[.int .i64 j.n, ev, .int .i64 j.kind, .int .i64 j.src] 27) #[.int .i64 0, .int .i64 0, .bool false, .bool false, .slice none 0 0, .slice none 0 0] 32).old hb1
  have HB := Lib.hid ((below_two w (.cells #[.int .i64 j.n, ev, .int .i64 j.kind, .int .i64 j.src] 27) (.cells #[.int .i64 0, .int .i64 0, .bool false, .bool false, .slice none 0 0, .slice none 0 0] 32)).trans (hb1.mono (by simp; omega)))
  have j0 : w1.cell? ⟨w.heap.size, 0, none⟩ = some (.int .i64 j.n) := jb.cell 0
  have j1 : w1.cell? ⟨w.heap.size, 1, none⟩ = some ev := jb.cell 1
  have j2 : w1.cell? ⟨w.heap.size, 2, none⟩ = some (.int .i64 j.kind) := jb.cell 2
  have j3 : w1.cell? ⟨w.heap.size, 3, none⟩ = some (.int .i64 j.src) := jb.cell 3
  have jlt : w.heap.size < w1.heap.size := jb.lt
  have rlt : w.heap.size + 1 < w1.heap.size := rb.lt
  rw [HK.out]
  have S2 := Bk.new w1 32 #[.int .i64 s.step, .int .i64 s.phase, .bool s.fresh, .bool true, .slice A7 s.vals.length c7, .slice A8 s.mail.length c8]
  have F2 := hr1.old (Below.of_alloc w1 (.cells #[.int .i64 s.step, .int .i64 s.phase, .bool s.fresh, .bool true, .slice A7 s.vals.length c7, .slice A8 s.mail.length c8] 32))
  simp only [World.size_alloc] at F2
  have RB := Lib.hid (rb.alloc (.cells #[.int .i64 s.step, .int .i64 s.phase, .bool s.fresh, .bool true, .slice A7 s.vals.length c7, .slice A8 s.mail.length c8] 32))
  have HB2 := Lib.hid (HB.out.alloc HB.out.size (.cells #[.int .i64 s.step, .int .i64 s.phase, .bool s.fresh, .bool true, .slice A7 s.vals.length c7, .slice A8 s.mail.length c8] 32))
  have HS2 := Lib.hid S2; have HF2 := Lib.hid F2
  clear jb rb hb1 hr1 S2 F2
  go_wp2_with fail
  refine (AN.out _ HB2.out _ _ HF2.out.st).mono ?_
  rintro e w2 ⟨v, rfl, hown, hb2⟩
  obtain ⟨A9, c9, rfl⟩ : ∃ A9 c9, v = .slice A9 (ansG j s).length c9 := by
    rcases hown.2 with ⟨rfl, h0⟩ | ⟨g9, c9, _, rfl, _⟩
    · exact ⟨none, 0, by rw [h0]⟩
    · exact ⟨_, _, rfl⟩
  have s2 := HS2.out.old hb2
  have r2 := RB.out.old hb2
  have HB3 := Lib.hid (HB2.out.trans (hb2.mono HB2.out.size))
  have HF3 := Lib.hid (HF2.out.old hb2)
  have HOWN := Lib.hid hown
  have LT := Lib.hid r2.lt
  clear j0 j1 j2 j3 jlt
  go_wp2_with fail
  refine wp_region_zs (RanS w1.heap.size (.int .i64 s.step) (.int .i64 s.phase) (.bool s.fresh) (.bool true) (.slice A7 s.vals.length c7) (.slice A8 s.mail.length c8)) [] (by kernel_rfl) ?_
  refine wpZ_batch (is := [0, 1, 2, 3, 4, 5, 6, 7, 8, 9, 10, 11, 12]) (by kernel_rfl) ⟨s2.cell 0, s2.cell 1, s2.cell 2, s2.cell 3, s2.cell 4, s2.cell 5⟩ (a1 := ?_) ?_ ?_
  rotate_left
  · repeat
      (refine SeqY.run (v := ?_) rfl (by first | exact wanted_none _ rfl | go_simp) ?_ ?_
       rotate_left
       · (intro W hS; cases hS; go_simp; (try with_reducible rfl)))
    exact SeqY.nil
  have r0 : w2.cell? ⟨w.heap.size + 1, 0, none⟩ = some (.int .i64 0) := r2.cell 0
  have r1 : w2.cell? ⟨w.heap.size + 1, 1, none⟩ = some (.int .i64 0) := r2.cell 1
  have r2' : w2.cell? ⟨w.heap.size + 1, 2, none⟩ = some (.bool false) := r2.cell 2
  have r3 : w2.cell? ⟨w.heap.size + 1, 3, none⟩ = some (.bool false) := r2.cell 3
  have r4 : w2.cell? ⟨w.heap.size + 1, 4, none⟩ = some (.slice none 0 0) := r2.cell 4
  have r5 : w2.cell? ⟨w.heap.size + 1, 5, none⟩ = some (.slice none 0 0) := r2.cell 5
  have f0 := r2.froz 0
  have f1 := r2.froz 1
  have f2 := r2.froz 2
  have f3 := r2.froz 3
  have f4 := r2.froz 4
  have f5 := r2.froz 5
  have SF := RanS.drew <| RanS.put6 (w := w2) (R := w.heap.size + 1) (t := w1.heap.size) (a0 := .int .i64 s.step) (a1 := .int .i64 s.phase) (a2 := .bool s.fresh) (a3 := .bool true) (a4 := .slice A7 s.vals.length c7) (a5 := .slice A8 s.mail.length c8) ⟨s2.cell 0, s2.cell 1, s2.cell 2, s2.cell 3, s2.cell 4, s2.cell 5⟩ (by omega) (.int .i64 s.step) (.int .i64 s.phase) (.bool s.fresh) (.bool true) (.slice A7 s.vals.length c7) (.slice A8 s.mail.length c8)
  have P := Lib.hid (put6_bk r2 (.int .i64 s.step) (.int .i64 s.phase) (.bool s.fresh) (.bool true) (.slice A7 s.vals.length c7) (.slice A8 s.mail.length c8))
  unfold put6 at SF
  refine wpZ_one (i := 13) (by kernel_rfl) rfl (fun K hK => ?_)
  go_simp
  refine hK.out _ _ SF (fun hS3 => ?_)
  refine wpZ_batch (is := [14]) (by kernel_rfl) hS3 (a1 := ?_) ?_ ?_
  rotate_left
  · repeat
      (refine SeqY.run (v := ?_) rfl (by first | exact wanted_none _ rfl | go_simp) ?_ ?_
       rotate_left
       · (intro W hS; cases hS; go_simp; (try with_reducible rfl)))
    exact SeqY.nil
  refine wpZ_done (by kernel_rfl) ?_
  go_wp2
  change bodyPost _ _ _ _ _ (put6 w2 (w.heap.size + 1) (.int .i64 s.step) (.int .i64 s.phase) (.bool s.fresh) (.bool true) (.slice A7 s.vals.length c7) (.slice A8 s.mail.length c8)).drew
  have e0 := P.out.cell 0
  have e1 := P.out.cell 1
  have e2 := P.out.cell 2
  have e3 := P.out.cell 3
  have e4 := P.out.cell 4
  have e5 := P.out.cell 5
  simp only [List.getElem?_toArray] at e0 e1 e2 e3 e4 e5
  refine bodyPost_ret (v := .tuple #[.slice A9 (ansG j s).length c9, .agg #[.int .i64 s.step, .int .i64 s.phase, .bool s.fresh, .bool true, .slice A7 s.vals.length c7, .slice A8 s.mail.length c8], .bool true]) ?_ rfl ⟨_, _, _, by unfold stV; rw [HK.out], ?_, ?_, (put6_below HB3.out (by omega) _ _ _ _ _ _).drew⟩
  · simp [results, Try.f17, go_sem, e0, e1, e2, e3, e4, e5]
  · have h1 : w2.ownsRow (w1.heap.size + 1) 3 1 (.slice A9 (ansG j s).length c9) (ansG j s).length ((ansG j s).flatMap encN) := by rw [flat_ints]; have := HOWN.out; simpa using this
    have h2 := own_chg h1 (((put6_chg w2 (w.heap.size + 1) (.int .i64 s.step) (.int .i64 s.phase) (.bool s.fresh) (.bool true) (.slice A7 s.vals.length c7) (.slice A8 s.mail.length c8)))) (fun g hg e => by have h3 := h1.lt g hg; have := HB.out.size; have := LT.out; omega)
    exact (Sl.of_own (sz := 1) (enc := encN) (fun _ => rfl) h2).old (Below.refl _ _).drew
  · exact (HF3.out.put6 (show w.heap.size + 1 < w.heap.size + 1 + 1 by omega) _ _ _ _ _ _).st.old (Below.refl _ _).drew
end Go.Proofs.Ytbholafggbdieaa
