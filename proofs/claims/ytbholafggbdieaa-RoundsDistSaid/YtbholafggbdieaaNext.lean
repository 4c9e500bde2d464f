/- rounds.Next. -/
import Derived.Test.YtbholafggbdieaaNextDefs
namespace Go.Proofs.Ytbholafggbdieaa
open Go.RowKit

set_option maxRecDepth 10000 in
set_option maxHeartbeats 2000000 in
theorem next_done (j : Jb) (hj : GoodJ j) (s : Stt) (hs : GoodS j s) (hd : s.done = true) (ev vv mv : Value) (w : World) (he : Sl 3 encE w w.heap.size ev j.es) (hr : StR w s vv mv) :
    Calls Try.prog 12 #[.agg #[.int .i64 j.n, ev, .int .i64 j.kind, .int .i64 j.src], .agg #[.int .i64 s.step, .int .i64 s.phase, .bool s.fresh, .bool s.done, vv, mv]] w (StepR s w) := by
  have CK := Lib.hid (fun W (hb : Below w.heap.size w W) => rcheck_any j hj ev W (he.old hb))
  have MY := Lib.hid (fun W (hb : Below w.heap.size w W) => may_any j s hj hs ev vv mv W (hr.old hb))
  have ht : total s.mail = 0 := by rcases hs.none_ with h | h; exact h; rw [hd] at h; cases h.2
  have h0 := hj.n0; have h1 := hj.top; have h2 := hs.vlen; have h3 := hs.mlen
  have CL := Lib.hid (fun W (hb : Below w.heap.size w W) => clone_any j.n.toNat s vv mv W (by omega) (by omega) (by omega) (by omega) ht (hr.old hb))
  clear hj hs he hr ht h0 h1 h2 h3
  obtain ⟨ni, es, kind, src⟩ := j
  obtain ⟨step, phase, fresh, done, vals, mail⟩ := s
  simp only at hd CK MY CL ⊢
  subst hd
  go_enter Try.func12, Try.ntmps12
  go_wp2_with fail
  refine (CK.out _ (((Below.of_alloc w _).alloc (by simp) _).alloc (by simp; omega) _)).mono ?_
  rintro e w1 ⟨rfl, hb1⟩
  have jb := (((Bk.new w 27 #[.int .i64 ni, ev, .int .i64 kind, .int .i64 src]).alloc (.cells #[.int .i64 step, .int .i64 phase, .bool fresh, .bool true, vv, mv] 32)).alloc (.cells #[.int .i64 0, .int .i64 0, .bool false, .bool false, .slice none 0 0, .slice none 0 0] 32)).old hb1
  have sb := ((cellr w (.cells #[.int .i64 ni, ev, .int .i64 kind, .int .i64 src] 27) #[.int .i64 step, .int .i64 phase, .bool fresh, .bool true, vv, mv] 32).alloc (.cells #[.int .i64 0, .int .i64 0, .bool false, .bool false, .slice none 0 0, .slice none 0 0] 32)).old hb1
  have rb := (cellr (w.alloc (.cells #[.int .i64 ni, ev, .int .i64 kind, .int .i64 src] 27)) (.cells #[.int .i64 step, .int .i64 phase, .bool fresh, .bool true, vv, mv] 32) #[.int .i64 0, .int .i64 0, .bool false, .bool false, .slice none 0 0, .slice none 0 0] 32).old hb1
  simp only [World.size_alloc] at rb
  have HB := Lib.hid ((((Below.of_alloc w (.cells #[.int .i64 ni, ev, .int .i64 kind, .int .i64 src] 27)).alloc (by simp) (.cells #[.int .i64 step, .int .i64 phase, .bool fresh, .bool true, vv, mv] 32)).alloc (by simp; omega) (.cells #[.int .i64 0, .int .i64 0, .bool false, .bool false, .slice none 0 0, .slice none 0 0] 32)).trans (hb1.mono (by simp; omega)))
  have j0 : w1.cell? ⟨w.heap.size, 0, none⟩ = some (.int .i64 ni) := jb.cell 0
  have j1 : w1.cell? ⟨w.heap.size, 1, none⟩ = some ev := jb.cell 1
  have j2 : w1.cell? ⟨w.heap.size, 2, none⟩ = some (.int .i64 kind) := jb.cell 2
  have j3 : w1.cell? ⟨w.heap.size, 3, none⟩ = some (.int .i64 src) := jb.cell 3
  have s0 : w1.cell? ⟨w.heap.size + 1, 0, none⟩ = some (.int .i64 step) := sb.cell 0
  have s1 : w1.cell? ⟨w.heap.size + 1, 1, none⟩ = some (.int .i64 phase) := sb.cell 1
  have s2 : w1.cell? ⟨w.heap.size + 1, 2, none⟩ = some (.bool fresh) := sb.cell 2
  have s3 : w1.cell? ⟨w.heap.size + 1, 3, none⟩ = some (.bool true) := sb.cell 3
  have s4 : w1.cell? ⟨w.heap.size + 1, 4, none⟩ = some vv := sb.cell 4
  have s5 : w1.cell? ⟨w.heap.size + 1, 5, none⟩ = some mv := sb.cell 5
  have JB := Lib.hid jb; have SB := Lib.hid sb; have RB := Lib.hid rb
  clear hb1 jb sb rb
  go_wp2_with fail
  refine (MY.out _ HB.out).mono ?_
  rintro e w2 ⟨rfl, hb2⟩
  have HB2 := Lib.hid (HB.out.trans (hb2.mono HB.out.size))
  have sb := SB.out.old hb2
  have u0 : w2.cell? ⟨w.heap.size + 1, 0, none⟩ = some (.int .i64 step) := sb.cell 0
  have u1 : w2.cell? ⟨w.heap.size + 1, 1, none⟩ = some (.int .i64 phase) := sb.cell 1
  have u2 : w2.cell? ⟨w.heap.size + 1, 2, none⟩ = some (.bool fresh) := sb.cell 2
  have u3 : w2.cell? ⟨w.heap.size + 1, 3, none⟩ = some (.bool true) := sb.cell 3
  have u4 : w2.cell? ⟨w.heap.size + 1, 4, none⟩ = some vv := sb.cell 4
  have u5 : w2.cell? ⟨w.heap.size + 1, 5, none⟩ = some mv := sb.cell 5
  have RB2 := Lib.hid (RB.out.old hb2)
  clear hb2 sb j0 j1 j2 j3 s0 s1 s2 s3 s4 s5
  go_wp2_with fail
  refine (CL.out _ HB2.out).mono ?_
  rintro e w3 ⟨vv', mv', rfl, hr3, hb3⟩
  obtain ⟨A7, c7, rfl⟩ := hr3.st.vals.shape
  obtain ⟨A8, c8, rfl⟩ := hr3.st.mail.shape
  simp only at hr3
  dsimp only [stV]
  have Z3 : Hid (w.heap.size + 1 + 1 < w2.heap.size ∧ w2.heap.size ≤ w3.heap.size) := ⟨RB2.out.lt, hb3.size⟩
  have rb := RB2.out.old hb3
  have HB3 := Lib.hid (HB2.out.trans (hb3.mono HB2.out.size))
  have r0 : w3.cell? ⟨w.heap.size + 1 + 1, 0, none⟩ = some (.int .i64 0) := rb.cell 0
  have r1 : w3.cell? ⟨w.heap.size + 1 + 1, 1, none⟩ = some (.int .i64 0) := rb.cell 1
  have r2 : w3.cell? ⟨w.heap.size + 1 + 1, 2, none⟩ = some (.bool false) := rb.cell 2
  have r3 : w3.cell? ⟨w.heap.size + 1 + 1, 3, none⟩ = some (.bool false) := rb.cell 3
  have r4 : w3.cell? ⟨w.heap.size + 1 + 1, 4, none⟩ = some (.slice none 0 0) := rb.cell 4
  have r5 : w3.cell? ⟨w.heap.size + 1 + 1, 5, none⟩ = some (.slice none 0 0) := rb.cell 5
  have f0 := rb.froz 0
  have f1 := rb.froz 1
  have f2 := rb.froz 2
  have f3 := rb.froz 3
  have f4 := rb.froz 4
  have f5 := rb.froz 5
  have RB3 := Lib.hid rb; have HR3 := Lib.hid hr3
  clear rb hb3 hr3 u0 u1 u2 u3 u4 u5
  go_wp2
  change bodyPost _ _ _ _ _ (put6 w3 (w.heap.size + 1 + 1) (.int .i64 step) (.int .i64 phase) (.bool fresh) (.bool true) (.slice A7 vals.length c7) (.slice A8 mail.length c8))
  have P := put6_bk RB3.out (.int .i64 step) (.int .i64 phase) (.bool fresh) (.bool true) (.slice A7 vals.length c7) (.slice A8 mail.length c8)
  have d0 := P.cell 0
  have d1 := P.cell 1
  have d2 := P.cell 2
  have d3 := P.cell 3
  have d4 := P.cell 4
  have d5 := P.cell 5
  simp only [List.getElem?_toArray] at d0 d1 d2 d3 d4 d5
  refine bodyPost_ret (v := .tuple #[.agg #[.int .i64 step, .int .i64 phase, .bool fresh, .bool true, .slice A7 vals.length c7, .slice A8 mail.length c8], .int .i64 0]) ?_ rfl ⟨_, _, rfl, fun W9 hW9 hk9 => HR3.out _ (by rw [put6_size] at hW9; exact hW9) (fun k hk hk2 => (hk9 k (by have := Z3.out; omega) (by rw [put6_size]; exact hk2)).trans (put6_block (by have := Z3.out; omega) _ _ _ _ _ _)), put6_below HB3.out (by omega) _ _ _ _ _ _⟩
  simp [results, Try.f12, go_sem, d0, d1, d2, d3, d4, d5]
end Go.Proofs.Ytbholafggbdieaa
