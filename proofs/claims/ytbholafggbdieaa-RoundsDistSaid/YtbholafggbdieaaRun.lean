/- rounds.Next of whatever is reached; rounds.Run. -/
import Derived.Test.YtbholafggbdieaaNextGo
namespace Go.Proofs.Ytbholafggbdieaa
open Go.RowKit

theorem nextG_done {j : Jb} {s : Stt} (h : s.done = true) : nextG j s = s := by unfold nextG; rw [h]; rfl
theorem next_any {j : Jb} (hj : GoodJ j) (hm : SmallJ j) {s : Stt} (ho : Ok j s) (hst : s.step < 100000) (ev vv mv : Value) (w : World) (he : Sl 3 encE w w.heap.size ev j.es) (hr : StR w s vv mv) :
    Calls Try.prog 12 #[.agg #[.int .i64 j.n, ev, .int .i64 j.kind, .int .i64 j.src], .agg #[.int .i64 s.step, .int .i64 s.phase, .bool s.fresh, .bool s.done, vv, mv]] w (StepR (nextG j s) w) := by
  cases hd : s.done
  · have := next_go j hj s ho.good hd hst hm (ok_sum hm ho) ev vv mv w he hr
    rw [hd] at this; exact this
  · rw [nextG_done hd]
    have := next_done j hj s ho.good hd ev vv mv w he hr
    rw [hd] at this; exact this
theorem itG_succ (j : Jb) (k : Nat) (s : Stt) : itG j (k + 1) s = nextG j (itG j k s) := by
  rw [itG_add]; rfl
theorem nextG_step (j : Jb) (s : Stt) : (nextG j s).step = s.step + 1 ∨ (nextG j s = s ∧ s.done = true) := by
  cases hd : s.done
  · left
    cases ha : anyG (mailG j s)
    · rw [nextG_quiet hd ha]
    · rw [nextG_go hd ha]
  · exact Or.inr ⟨nextG_done hd, rfl⟩
theorem step_le (j : Jb) (s : Stt) : ∀ k : Nat, (itG j k s).step ≤ s.step + (k : Int)
  | 0 => by simp [itG]
  | k + 1 => by
    have ih := step_le j s k
    rw [itG_succ]
    rcases nextG_step j (itG j k s) with h | ⟨h, _⟩
    · rw [h]; omega
    · rw [h]; omega
theorem ok_it {j : Jb} (hj : GoodJ j) (hm : SmallJ j) {s : Stt} (h : Ok j s) : ∀ k : Nat, s.step + (k : Int) ≤ 100000 → Ok j (itG j k s)
  | 0, _ => h
  | k + 1, hk => by
    rw [itG_succ]
    have := step_le j s k
    exact ok_next hj hm (ok_it hj hm h k (by omega)) (by omega)
theorem it_done {j : Jb} {s : Stt} {K : Nat} (h : (itG j K s).done = true) : ∀ m, itG j (K + m) s = itG j K s
  | 0 => rfl
  | m + 1 => by
    have ih := it_done h m
    rw [show K + (m + 1) = (K + m) + 1 from rfl, itG_succ, ih, nextG_done h]
def stepAt (w : World) (b : Nat) : Nat := match w.cell? ⟨b, 0, none⟩ with | some (.int _ q) => q.toNat | _ => 0
theorem stepAt_bk {w : World} {b : Nat} {t : TypeId} {k : Int} {a1 a2 a3 a4 a5 : Value} (h : Bk w b t #[.int .i64 k, a1, a2, a3, a4, a5]) : stepAt w b = k.toNat := by
  unfold stepAt; rw [h.cell]; rfl

theorem FreshSt.less {B B' : Nat} {w : World} {s : Stt} {vv mv : Value} (h : FreshSt B w s vv mv) (hB : B' ≤ B) : FreshSt B' w s vv mv := fun W hW hk => h W hW (fun k h1 h2 => hk k (by omega) h2)
theorem FreshSt.put6 {B R : Nat} {w : World} {s : Stt} {vv mv : Value} (h : FreshSt B w s vv mv) (hR : R < B) (a0 a1 a2 a3 a4 a5 : Value) : FreshSt B (put6 w R a0 a1 a2 a3 a4 a5) s vv mv :=
  fun W hW hk => h W (by rw [put6_size] at hW; exact hW) (fun k h1 h2 => (hk k h1 (by rw [put6_size]; exact h2)).trans (put6_block (by omega) _ _ _ _ _ _))
theorem FreshSt.old {B : Nat} {w w' : World} {s : Stt} {vv mv : Value} (h : FreshSt B w s vv mv) (hb : Below w.heap.size w w') : FreshSt B w' s vv mv :=
  fun W hW hk => h W (Nat.le_trans hb.size hW) (fun k h1 h2 => (hk k h1 (Nat.lt_of_lt_of_le h2 hb.size)).trans (hb.block k h2))

set_option maxRecDepth 10000 in
set_option maxHeartbeats 1000000 in
theorem run_any (j : Jb) (hj : GoodJ j) (hm : SmallJ j) (K : Nat) (hK : (itG j K (beginG j)).done = true) (hK2 : K ≤ 10000) (ev : Value) (w : World) (he : Sl 3 encE w w.heap.size ev j.es) :
    Calls Try.prog 15 #[.agg #[.int .i64 j.n, ev, .int .i64 j.kind, .int .i64 j.src]] w (StepR (itG j K (beginG j)) w) := by
  have BG := Lib.hid (fun W (hb : Below w.heap.size w W) => begin_any j hj ev W (he.old hb))
  have NX := Lib.hid (fun (k : Nat) (hk : k ≤ K) W (hb : Below w.heap.size w W) vv mv (hr : StR W (itG j k (beginG j)) vv mv) =>
    next_any hj hm (ok_it hj hm (ok_begin hj) k (by have : (beginG j).step = 0 := rfl; omega)) (by have := step_le j (beginG j) k; have e : (beginG j).step = 0 := rfl; omega) ev vv mv W (he.old hb) hr)
  have HK := Lib.hid hK
  have DN := Lib.hid (fun k (hk : K ≤ k) => (by have := it_done hK (k - K); rwa [show K + (k - K) = k from by omega] at this : itG j k (beginG j) = itG j K (beginG j)))
  clear he hK
  go_enter Try.func15, Try.ntmps15
  go_wp2_with fail
  refine (BG.out _ (below_two _ _ _)).mono ?_
  rintro e w1 ⟨vv, mv, rfl, hr1, hb1⟩
  dsimp only [stV]
  have jb := ((Bk.new w 27 #[.int .i64 j.n, ev, .int .i64 j.kind, .int .i64 j.src]).alloc (.cells #[.int .i64 0, .int .i64 0, .bool false, .bool false, .slice none 0 0, .slice none 0 0] 32)).old hb1
  have rb := (cellr w (.cells #[.int .i64 j.n, ev, .int .i64 j.kind, .int .i64 j.src] 27) #[.int .i64 0, .int .i64 0, .bool false, .bool false, .slice none 0 0, .slice none 0 0] 32).old hb1
  have HB := Lib.hid ((below_two w (.cells #[.int .i64 j.n, ev, .int .i64 j.kind, .int .i64 j.src] 27) (.cells #[.int .i64 0, .int .i64 0, .bool false, .bool false, .slice none 0 0, .slice none 0 0] 32)).trans (hb1.mono (by simp; omega)))
  obtain ⟨A7, c7, rfl⟩ := hr1.st.vals.shape
  obtain ⟨A8, c8, rfl⟩ := hr1.st.mail.shape
  have hsz : w.heap.size + 1 < w1.heap.size := rb.lt
  have JB := Lib.hid jb; have RB := Lib.hid rb; have HR := Lib.hid (hr1.old (Below.of_alloc w1 (.cells (stV (beginG j) (.slice A7 (beginG j).vals.length c7) (.slice A8 (beginG j).mail.length c8)) 32)))
  simp only [World.size_alloc] at HR
  clear jb rb hr1 hb1
  go_wp2_with fail
  go_loopw [5] (fun e wr => ∃ (k : Nat) (vv mv : Value), k ≤ K ∧ e = .int .i64 0 ∧ Hid ((itG j k (beginG j)).step = (k : Int)) ∧ Bk wr w1.heap.size 32 (stV (itG j k (beginG j)) vv mv) ∧ FreshSt (w.heap.size + 1 + 1) wr (itG j k (beginG j)) vv mv ∧ Below w1.heap.size w1 wr) (fun _ wr => K - stepAt wr w1.heap.size)
  case atStart => exact ⟨0, _, _, Nat.zero_le _, rfl, rfl, Bk.new w1 _ _, HR.out, Below.of_alloc _ _⟩
  case round =>
    obtain ⟨k, vv, mv, hk, rfl, hst, hb, hf, hbel⟩ := hrel
    obtain ⟨A7', c7', rfl⟩ := hf.st.vals.shape
    obtain ⟨A8', c8', rfl⟩ := hf.st.mail.shape
    have NXk := Lib.hid (NX.out k hk wr (HB.out.trans (hbel.mono HB.out.size)) _ _ hf.st)
    have DNk := Lib.hid (fun (hd : (itG j k (beginG j)).done = true) => (by have := it_done hd (K - k); rwa [show k + (K - k) = K from by omega] at this : itG j K (beginG j) = itG j k (beginG j)))
    have KK : Hid ((itG j k (beginG j)).done = false → k < K) := by
      intro hd
      rcases Nat.lt_or_ge k K with h | h
      · exact h
      · have e := DN.out k h
        rw [e, HK.out] at hd
        cases hd
    have NS := Lib.hid (nextG_step j (itG j k (beginG j)))
    have IS := Lib.hid (itG_succ j k (beginG j))
    generalize itG j k (beginG j) = s at *
    have b0 : wr.cell? ⟨w1.heap.size, 0, none⟩ = some (.int .i64 s.step) := hb.cell 0
    have b1 : wr.cell? ⟨w1.heap.size, 1, none⟩ = some (.int .i64 s.phase) := hb.cell 1
    have b2 : wr.cell? ⟨w1.heap.size, 2, none⟩ = some (.bool s.fresh) := hb.cell 2
    have b4 : wr.cell? ⟨w1.heap.size, 4, none⟩ = some (.slice A7' s.vals.length c7') := hb.cell 4
    have b5 : wr.cell? ⟨w1.heap.size, 5, none⟩ = some (.slice A8' s.mail.length c8') := hb.cell 5
    have SA : Hid (stepAt wr w1.heap.size = k) := by unfold Hid; rw [stepAt_bk hb, hst.out]; rfl
    cases hd : s.done
    · have hkK := KK.out hd
      have b3 : wr.cell? ⟨w1.heap.size, 3, none⟩ = some (.bool false) := (hb.cell 3).trans (by rw [← hd]; rfl)
      have jb := JB.out.old hbel
      have j0 : wr.cell? ⟨w.heap.size, 0, none⟩ = some (.int .i64 j.n) := jb.cell 0
      have j1 : wr.cell? ⟨w.heap.size, 1, none⟩ = some ev := jb.cell 1
      have j2 : wr.cell? ⟨w.heap.size, 2, none⟩ = some (.int .i64 j.kind) := jb.cell 2
      have j3 : wr.cell? ⟨w.heap.size, 3, none⟩ = some (.int .i64 j.src) := jb.cell 3
      rw [hd] at NXk
      have HD := Lib.hid hd; clear hd
      have hBl := Lib.hid hbel; have HBK := Lib.hid hb
      clear hb hf hbel jb
      go_wp2_with fail
      refine NXk.out.mono ?_
      rintro e w5 ⟨vv', mv', rfl, hf5, hb5⟩
      obtain ⟨A9, c9, rfl⟩ := hf5.st.vals.shape
      obtain ⟨A10, c10, rfl⟩ := hf5.st.mail.shape
      dsimp only [stV]
      have bk5 := HBK.out.old hb5
      have d0 : w5.cell? ⟨w1.heap.size, 0, none⟩ = some (.int .i64 s.step) := bk5.cell 0
      have d1 : w5.cell? ⟨w1.heap.size, 1, none⟩ = some (.int .i64 s.phase) := bk5.cell 1
      have d2 : w5.cell? ⟨w1.heap.size, 2, none⟩ = some (.bool s.fresh) := bk5.cell 2
      have d3 : w5.cell? ⟨w1.heap.size, 3, none⟩ = some (.bool s.done) := bk5.cell 3
      have d4 : w5.cell? ⟨w1.heap.size, 4, none⟩ = some (.slice A7' s.vals.length c7') := bk5.cell 4
      have d5 : w5.cell? ⟨w1.heap.size, 5, none⟩ = some (.slice A8' s.mail.length c8') := bk5.cell 5
      have f0 := bk5.froz 0
      have f1 := bk5.froz 1
      have f2 := bk5.froz 2
      have f3 := bk5.froz 3
      have f4 := bk5.froz 4
      have f5 := bk5.froz 5
      have wlt := HBK.out.lt
      have P6 := Lib.hid (put6_bk bk5 (.int .i64 (nextG j s).step) (.int .i64 (nextG j s).phase) (.bool (nextG j s).fresh) (.bool (nextG j s).done) (.slice A9 (nextG j s).vals.length c9) (.slice A10 (nextG j s).mail.length c10))
      have F6 := Lib.hid ((hf5.put6 wlt (.int .i64 (nextG j s).step) (.int .i64 (nextG j s).phase) (.bool (nextG j s).fresh) (.bool (nextG j s).done) (.slice A9 (nextG j s).vals.length c9) (.slice A10 (nextG j s).mail.length c10)).less (show w.heap.size + 1 + 1 ≤ wr.heap.size by have := hBl.out.size; omega))
      have B6 := Lib.hid (put6_below (hBl.out.trans (hb5.mono hBl.out.size)) (Nat.le_refl _) (.int .i64 (nextG j s).step) (.int .i64 (nextG j s).phase) (.bool (nextG j s).fresh) (.bool (nextG j s).done) (.slice A9 (nextG j s).vals.length c9) (.slice A10 (nextG j s).mail.length c10))
      clear bk5 hf5 hb5 b0 b1 b2 b3 b4 b5 j0 j1 j2 j3
      go_wp2
      go_roundw
      case rel =>
        refine ⟨k + 1, .slice A9 (nextG j s).vals.length c9, .slice A10 (nextG j s).mail.length c10, by omega, rfl, ?_, ?_, ?_, B6.out⟩
        · rw [IS.out]
          rcases NS.out with h | ⟨_, h⟩
          · unfold Hid; rw [h, hst.out]; omega
          · rw [HD.out] at h; cases h
        · rw [IS.out]; exact P6.out
        · rw [IS.out]; exact F6.out
      case measure =>
        rw [SA.out]
        show K - stepAt (put6 w5 w1.heap.size _ _ _ _ _ _) _ < _
        rw [stepAt_bk P6.out]
        rcases NS.out with h | ⟨_, h⟩
        · have := hst.out; omega
        · rw [HD.out] at h; cases h
    · have b3 : wr.cell? ⟨w1.heap.size, 3, none⟩ = some (.bool true) := (hb.cell 3).trans (by rw [← hd]; rfl)
      have rb := RB.out.old hbel
      have d0 : wr.cell? ⟨w.heap.size + 1, 0, none⟩ = some (.int .i64 0) := rb.cell 0
      have d1 : wr.cell? ⟨w.heap.size + 1, 1, none⟩ = some (.int .i64 0) := rb.cell 1
      have d2 : wr.cell? ⟨w.heap.size + 1, 2, none⟩ = some (.bool false) := rb.cell 2
      have d3 : wr.cell? ⟨w.heap.size + 1, 3, none⟩ = some (.bool false) := rb.cell 3
      have d4 : wr.cell? ⟨w.heap.size + 1, 4, none⟩ = some (.slice none 0 0) := rb.cell 4
      have d5 : wr.cell? ⟨w.heap.size + 1, 5, none⟩ = some (.slice none 0 0) := rb.cell 5
      have f0 := rb.froz 0
      have f1 := rb.froz 1
      have f2 := rb.froz 2
      have f3 := rb.froz 3
      have f4 := rb.froz 4
      have f5 := rb.froz 5
      have P := Lib.hid (put6_bk rb (.int .i64 s.step) (.int .i64 s.phase) (.bool s.fresh) (.bool true) (.slice A7' s.vals.length c7') (.slice A8' s.mail.length c8'))
      have F6 := Lib.hid ((hf.put6 (show w.heap.size + 1 < w.heap.size + 1 + 1 by omega) (.int .i64 s.step) (.int .i64 s.phase) (.bool s.fresh) (.bool true) (.slice A7' s.vals.length c7') (.slice A8' s.mail.length c8')).less (show w.heap.size ≤ w.heap.size + 1 + 1 by omega))
      have B6 := Lib.hid (put6_below (HB.out.trans (hbel.mono HB.out.size)) (show w.heap.size ≤ w.heap.size + 1 by omega) (.int .i64 s.step) (.int .i64 s.phase) (.bool s.fresh) (.bool true) (.slice A7' s.vals.length c7') (.slice A8' s.mail.length c8'))
      have KD := Lib.hid (DNk.out hd)
      have HD := Lib.hid hd
      clear rb hb hf hbel
      go_wp2
      change bodyPost _ _ _ _ _ (put6 wr (w.heap.size + 1) (.int .i64 s.step) (.int .i64 s.phase) (.bool s.fresh) (.bool true) (.slice A7' s.vals.length c7') (.slice A8' s.mail.length c8'))
      have e0 := P.out.cell 0
      have e1 := P.out.cell 1
      have e2 := P.out.cell 2
      have e3 := P.out.cell 3
      have e4 := P.out.cell 4
      have e5 := P.out.cell 5
      simp only [List.getElem?_toArray] at e0 e1 e2 e3 e4 e5
      rw [KD.out]
      refine bodyPost_ret (v := .tuple #[.agg #[.int .i64 s.step, .int .i64 s.phase, .bool s.fresh, .bool true, .slice A7' s.vals.length c7', .slice A8' s.mail.length c8'], .int .i64 0]) ?_ rfl ⟨_, _, by unfold stV; rw [HD.out], F6.out, B6.out⟩
      simp [results, Try.f15, go_sem, e0, e1, e2, e3, e4, e5]
end Go.Proofs.Ytbholafggbdieaa
