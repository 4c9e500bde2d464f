/- RoundsSteps: the walk. -/
import Derived.Test.YtbholafggbdieaaSameState
import Derived.Test.YtbholafggbdieaaRun
import Derived.Test.YtbholafggbdieaaJobGood
namespace Go.Proofs.Ytbholafggbdieaa
open Go.RowKit

set_option maxRecDepth 10000 in
set_option maxHeartbeats 2000000 in
theorem steps_any (n0 kind src more : Int) (ws : List Wy) (v : Value) (w : World) (hn : I64 n0) (hk : I64 kind) (hs : I64 src) (ht : I64 more) (hv : Sl 3 encW w w.heap.size v ws) (hw : ∀ x ∈ ws, I64 x.f ∧ I64 x.t ∧ I64 x.g) :
    Calls Try.prog 4 #[.int .i64 n0, v, .int .i64 kind, .int .i64 src, .int .i64 more] w fun e w' => e = .returned (.bool true) ∧ Below w.heap.size w w' := by
  have JB := Lib.hid (job_any n0 kind src ws v w hn hk hs hv hw)
  obtain ⟨hj, hm, hn8, hl10, heg⟩ := jobG_good n0 ws kind src
  generalize jobG n0 ws kind src = j at *
  clear hv hw heg hl10
  have PT := Lib.hid (fun W => picked_any more 4 ht (by omega) (by omega) W)
  obtain ⟨pt0, pt1⟩ := pick_range more 4 (by omega)
  generalize pickG more 4 = pm at *
  obtain ⟨K, K1, K2, hK, hKs⟩ := job_ends hj hn8
  have HK := Lib.hid hK; have HKS := Lib.hid hKs
  have RN := Lib.hid (fun ev W he => run_any j hj hm K hK (by omega) ev W he)
  have BG := Lib.hid (fun ev W he => begin_any j hj ev W he)
  have NX := Lib.hid (fun (k : Nat) (hk : k ≤ K) ev vv mv W he (hr : StR W (itG j k (beginG j)) vv mv) =>
    next_any hj hm (ok_it hj hm (ok_begin hj) k (by have : (beginG j).step = 0 := rfl; omega)) (by have := step_le j (beginG j) k; have e : (beginG j).step = 0 := rfl; omega) ev vv mv W he hr)
  have DN := Lib.hid (fun k (hk : K ≤ k) => (by have := it_done hK (k - K); rwa [show K + (k - K) = k from by omega] at this : itG j k (beginG j) = itG j K (beginG j)))
  clear hj hm hK hKs
  go_enter Try.func4, Try.ntmps4
  go_wp2_with fail
  refine JB.out.mono ?_
  rintro e w1 ⟨ev, rfl, hsl, hb1, _⟩
  obtain ⟨A0, c0, rfl⟩ := hsl.shape
  have J1 := Bk.new w1 27 #[.int .i64 j.n, .slice A0 j.es.length c0, .int .i64 j.kind, .int .i64 j.src]
  have B1 := Below.of_alloc w1 (.cells #[.int .i64 j.n, .slice A0 j.es.length c0, .int .i64 j.kind, .int .i64 j.src] 27)
  have sl1 := hsl.old B1
  have hs1 := hb1.size
  have HB1 := Lib.hid (hb1.trans (B1.mono hb1.size))
  have sz1 : (w1.alloc (.cells #[.int .i64 j.n, .slice A0 j.es.length c0, .int .i64 j.kind, .int .i64 j.src] 27)).heap.size = w1.heap.size + 1 := by simp
  clear hsl hb1 B1
  go_wp2_with fail
  generalize hJ : w1.heap.size = J at *
  generalize (w1.alloc (.cells #[.int .i64 j.n, .slice A0 j.es.length c0, .int .i64 j.kind, .int .i64 j.src] 27)) = W1 at *
  clear hJ
  have j0 : W1.cell? ⟨J, 0, none⟩ = some (.int .i64 j.n) := J1.cell 0
  have j1 : W1.cell? ⟨J, 1, none⟩ = some (.slice A0 j.es.length c0) := J1.cell 1
  have j2 : W1.cell? ⟨J, 2, none⟩ = some (.int .i64 j.kind) := J1.cell 2
  have j3 : W1.cell? ⟨J, 3, none⟩ = some (.int .i64 j.src) := J1.cell 3
  go_wp2_with fail
  refine (RN.out _ _ sl1).mono ?_
  rintro e w2 ⟨va, ma, rfl, hr2, hb2⟩
  obtain ⟨A7, c7, rfl⟩ := hr2.st.vals.shape
  obtain ⟨A8, c8, rfl⟩ := hr2.st.mail.shape
  generalize hE : itG j K (beginG j) = E at *
  have hE' := Lib.hid hE; clear hE
  dsimp only [stV]
  have J2 := J1.old hb2
  have sl2 := sl1.old hb2
  have HB2 := Lib.hid (HB1.out.trans (hb2.mono HB1.out.size))
  have LT2 : J < w2.heap.size := J2.lt
  clear j0 j1 j2 j3 J1 sl1
  have j0 : w2.cell? ⟨J, 0, none⟩ = some (.int .i64 j.n) := J2.cell 0
  have j1 : w2.cell? ⟨J, 1, none⟩ = some (.slice A0 j.es.length c0) := J2.cell 1
  have j2 : w2.cell? ⟨J, 2, none⟩ = some (.int .i64 j.kind) := J2.cell 2
  have j3 : w2.cell? ⟨J, 3, none⟩ = some (.int .i64 j.src) := J2.cell 3
  have sz2 : (w2.alloc (.cells #[.int .i64 E.step, .int .i64 E.phase, .bool E.fresh, .bool E.done, .slice A7 E.vals.length c7, .slice A8 E.mail.length c8] 32)).heap.size = w2.heap.size + 1 := by simp
  have X2 := Bk.new w2 32 #[.int .i64 E.step, .int .i64 E.phase, .bool E.fresh, .bool E.done, .slice A7 E.vals.length c7, .slice A8 E.mail.length c8]
  have B2 := Below.of_alloc w2 (.cells #[.int .i64 E.step, .int .i64 E.phase, .bool E.fresh, .bool E.done, .slice A7 E.vals.length c7, .slice A8 E.mail.length c8] 32)
  have J3 := J2.old B2
  have sl3 := sl2.old B2
  have st3 := hr2.st.old B2
  have HB3 := Lib.hid (HB2.out.trans (B2.mono HB2.out.size))
  clear J2 sl2 hr2 hb2 B2
  go_wp2_with fail
  generalize hA : w2.heap.size = A at *
  generalize (w2.alloc (.cells #[.int .i64 E.step, .int .i64 E.phase, .bool E.fresh, .bool E.done, .slice A7 E.vals.length c7, .slice A8 E.mail.length c8] 32)) = W2 at *
  clear hA j0 j1 j2 j3
  refine (BG.out _ _ sl3).mono ?_
  rintro e w3 ⟨vb, mb, rfl, hr3, hb3⟩
  obtain ⟨A9, c9, rfl⟩ := hr3.st.vals.shape
  obtain ⟨A10, c10, rfl⟩ := hr3.st.mail.shape
  dsimp only [stV]
  have HJ := Lib.hid (J3.old hb3)
  have HX := Lib.hid (X2.old hb3)
  have HSL := Lib.hid (sl3.old hb3)
  have HST := Lib.hid (st3.old hb3)
  have HB4 := Lib.hid (HB3.out.trans (hb3.mono HB3.out.size))
  have HR := Lib.hid ((hr3.less (show J + 1 ≤ W2.heap.size by omega)).old (Below.of_alloc w3 (.cells (stV (beginG j) (.slice A9 (beginG j).vals.length c9) (.slice A10 (beginG j).mail.length c10)) 32)))
  have LT3 : A < w3.heap.size := HX.out.lt
  clear J3 sl3 st3 X2 hr3 hb3
  go_wp2_with fail
  go_loopw [16] (fun e wr => ∃ (k : Nat) (vv mv : Value), k ≤ K ∧ e = .int .i64 k ∧ Hid ((itG j k (beginG j)).step = (k : Int)) ∧ Bk wr w3.heap.size 32 (stV (itG j k (beginG j)) vv mv) ∧ FreshSt (J + 1) wr (itG j k (beginG j)) vv mv ∧ Below w3.heap.size w3 wr) (fun e _ => K - (intOf e).toNat)
  case atStart => exact ⟨0, _, _, Nat.zero_le _, rfl, rfl, Bk.new w3 _ _, HR.out, Below.of_alloc _ _⟩
  case round =>
    obtain ⟨k, vv, mv, hk, rfl, hst, hb, hf, hbel⟩ := hrel
    obtain ⟨A7', c7', rfl⟩ := hf.st.vals.shape
    obtain ⟨A8', c8', rfl⟩ := hf.st.mail.shape
    have NXk := Lib.hid (fun W (hW : Below wr.heap.size wr W) => NX.out k hk _ _ _ W ((HSL.out.old hbel).old hW) (hf.st.old hW))
    have DNk := Lib.hid (fun (hd : (itG j k (beginG j)).done = true) => (by have := it_done hd (K - k); rwa [show k + (K - k) = K from by omega, hE'.out] at this : E = itG j k (beginG j)))
    have KK : Hid ((itG j k (beginG j)).done = false → k < K) := by
      intro hd
      rcases Nat.lt_or_ge k K with h | h
      · exact h
      · have e := DN.out k h
        rw [e, HK.out] at hd
        cases hd
    have NS := Lib.hid (nextG_step j (itG j k (beginG j)))
    have IS := Lib.hid (itG_succ j k (beginG j))
    generalize itG j k (beginG j) = s at *
    have b0 : wr.cell? ⟨w3.heap.size, 0, none⟩ = some (.int .i64 s.step) := hb.cell 0
    have b1 : wr.cell? ⟨w3.heap.size, 1, none⟩ = some (.int .i64 s.phase) := hb.cell 1
    have b2 : wr.cell? ⟨w3.heap.size, 2, none⟩ = some (.bool s.fresh) := hb.cell 2
    have b4 : wr.cell? ⟨w3.heap.size, 4, none⟩ = some (.slice A7' s.vals.length c7') := hb.cell 4
    have b5 : wr.cell? ⟨w3.heap.size, 5, none⟩ = some (.slice A8' s.mail.length c8') := hb.cell 5
    have jb := HJ.out.old hbel
    have j0 : wr.cell? ⟨J, 0, none⟩ = some (.int .i64 j.n) := jb.cell 0
    have j1 : wr.cell? ⟨J, 1, none⟩ = some (.slice A0 j.es.length c0) := jb.cell 1
    have j2 : wr.cell? ⟨J, 2, none⟩ = some (.int .i64 j.kind) := jb.cell 2
    have j3 : wr.cell? ⟨J, 3, none⟩ = some (.int .i64 j.src) := jb.cell 3
    cases hd : s.done
    · have hkK := KK.out hd
      have b3 : wr.cell? ⟨w3.heap.size, 3, none⟩ = some (.bool false) := (hb.cell 3).trans (by rw [← hd]; rfl)
      have e1 : (nextG j s).step = s.step + 1 := by
        rcases NS.out with h | ⟨_, h⟩
        · exact h
        · rw [hd] at h; cases h
      have hst' := hst.out
      have tn : ((nextG j s).step != s.step + 1) = false := by simp [e1]
      have tk : decide ((k : Int) < 200) = true := by simp; omega
      have tw : IntKind.i64.wrap (s.step + 1) = s.step + 1 := IntWalk.i64_in _ (by omega)
      have E1 := Lib.hid e1
      have ST := Lib.hid hst'
      have NXk' := NXk.out wr (Below.refl _ _)
      rw [hd] at NXk'
      have NX2 := Lib.hid NXk'
      have HD := Lib.hid hd
      have hBl := Lib.hid hbel; have HBK := Lib.hid hb
      have S0 := hbel.size
      clear hb hf hbel jb NXk NXk' hd e1 hst'
      go_wp2_with fail
      refine NX2.out.mono ?_
      rintro e w5 ⟨vv', mv', rfl, hf5, hb5⟩
      obtain ⟨A11, c11, rfl⟩ := hf5.st.vals.shape
      obtain ⟨A12, c12, rfl⟩ := hf5.st.mail.shape
      dsimp only [stV]
      have bk5 := HBK.out.old hb5
      have lt5 : w3.heap.size < w5.heap.size := bk5.lt
      have d0 : w5.cell? ⟨w3.heap.size, 0, none⟩ = some (.int .i64 s.step) := bk5.cell 0
      have d1 : w5.cell? ⟨w3.heap.size, 1, none⟩ = some (.int .i64 s.phase) := bk5.cell 1
      have d2 : w5.cell? ⟨w3.heap.size, 2, none⟩ = some (.bool s.fresh) := bk5.cell 2
      have d3 : w5.cell? ⟨w3.heap.size, 3, none⟩ = some (.bool s.done) := bk5.cell 3
      have d4 : w5.cell? ⟨w3.heap.size, 4, none⟩ = some (.slice A7' s.vals.length c7') := bk5.cell 4
      have d5 : w5.cell? ⟨w3.heap.size, 5, none⟩ = some (.slice A8' s.mail.length c8') := bk5.cell 5
      have f0 := bk5.froz 0
      have f1 := bk5.froz 1
      have f2 := bk5.froz 2
      have f3 := bk5.froz 3
      have f4 := bk5.froz 4
      have f5 := bk5.froz 5
      go_wp2_with fail
      have P6 := put6_bk bk5 (.int .i64 (nextG j s).step) (.int .i64 (nextG j s).phase) (.bool (nextG j s).fresh) (.bool (nextG j s).done) (.slice A11 (nextG j s).vals.length c11) (.slice A12 (nextG j s).mail.length c12)
      have F6 := (hf5.put6 HBK.out.lt (.int .i64 (nextG j s).step) (.int .i64 (nextG j s).phase) (.bool (nextG j s).fresh) (.bool (nextG j s).done) (.slice A11 (nextG j s).vals.length c11) (.slice A12 (nextG j s).mail.length c12)).less (show J + 1 ≤ wr.heap.size by omega)
      have B6 := put6_below (hBl.out.trans (hb5.mono hBl.out.size)) (Nat.le_refl _) (.int .i64 (nextG j s).step) (.int .i64 (nextG j s).phase) (.bool (nextG j s).fresh) (.bool (nextG j s).done) (.slice A11 (nextG j s).vals.length c11) (.slice A12 (nextG j s).mail.length c12)
      have w5s := hb5.size
      refine ⟨⟨k + 1, .slice A11 (nextG j s).vals.length c11, .slice A12 (nextG j s).mail.length c12, by omega, by go_num, ?_, ?_, ?_, ?_⟩, by simp [intOf]; omega⟩
      · rw [IS.out]; unfold Hid; rw [E1.out, ST.out]; omega
      · rw [IS.out]; exact P6.alloc _
      · rw [IS.out]; exact F6.old (Below.of_alloc _ _)
      · exact B6.alloc (by have := P6.lt; change w3.heap.size ≤ _; exact Nat.le_of_lt this) _
    · have b3 : wr.cell? ⟨w3.heap.size, 3, none⟩ = some (.bool true) := (hb.cell 3).trans (by rw [← hd]; rfl)
      have hEs := DNk.out hd
      have hst' := hst.out
      have ND := nextG_done (j := j) hd
      clear NS IS KK DNk NX DN
      subst hEs
      have kp : 1 ≤ k := by have := HKS.out; omega
      have tp : decide (0 < E.step) = true := by simp; omega
      rw [ND] at NXk
      clear ND
      have HD := Lib.hid hd
      have hBl := Lib.hid hbel; have HBK := Lib.hid hb; have HF := Lib.hid hf
      have S0 := hbel.size
      clear hb hf hbel jb hd hst'
      go_wp2_with fail
      clear b0 b1 b2 b3 b4 b5 j0 j1 j2 j3
      generalize hwq : wr = wq at *
      clear hwq
      rw [HD.out]
      go_loopw [19] (fun e wr => ∃ i : Nat, (i : Int) ≤ pm ∧ e = .int .i64 i ∧ Below wq.heap.size wq wr) (fun e _ => pm.toNat - (intOf e).toNat)
      case atStart => exact ⟨0, by omega, rfl, Below.refl _ _⟩
      case round =>
        obtain ⟨i, hi, rfl, hbq⟩ := hrel
        have S1 := hbq.size
        have HDD : (stV E (.slice A7' E.vals.length c7') (.slice A8' E.mail.length c8')) = #[.int .i64 E.step, .int .i64 E.phase, .bool E.fresh, .bool true, .slice A7' E.vals.length c7', .slice A8' E.mail.length c8'] := by unfold stV; rw [HD.out]
        have bS : Bk wr w3.heap.size 32 #[.int .i64 E.step, .int .i64 E.phase, .bool E.fresh, .bool true, .slice A7' E.vals.length c7', .slice A8' E.mail.length c8'] := by rw [← HDD]; exact HBK.out.old hbq
        have b0 : wr.cell? ⟨w3.heap.size, 0, none⟩ = some (.int .i64 E.step) := bS.cell 0
        have b1 : wr.cell? ⟨w3.heap.size, 1, none⟩ = some (.int .i64 E.phase) := bS.cell 1
        have b2 : wr.cell? ⟨w3.heap.size, 2, none⟩ = some (.bool E.fresh) := bS.cell 2
        have b3 : wr.cell? ⟨w3.heap.size, 3, none⟩ = some (.bool true) := bS.cell 3
        have b4 : wr.cell? ⟨w3.heap.size, 4, none⟩ = some (.slice A7' E.vals.length c7') := bS.cell 4
        have b5 : wr.cell? ⟨w3.heap.size, 5, none⟩ = some (.slice A8' E.mail.length c8') := bS.cell 5
        have hbel := hBl.out.trans (hbq.mono hBl.out.size)
        have PTr := Lib.hid (PT.out wr)
        clear HDD
        by_cases hlt : (i : Int) < pm
        · have tl : decide ((i : Int) < pm) = true := by simpa using hlt
          have jb := HJ.out.old hbel
          have j0 : wr.cell? ⟨J, 0, none⟩ = some (.int .i64 j.n) := jb.cell 0
          have j1 : wr.cell? ⟨J, 1, none⟩ = some (.slice A0 j.es.length c0) := jb.cell 1
          have j2 : wr.cell? ⟨J, 2, none⟩ = some (.int .i64 j.kind) := jb.cell 2
          have j3 : wr.cell? ⟨J, 3, none⟩ = some (.int .i64 j.src) := jb.cell 3
          have NX1 := NXk.out wr hbq
          rw [HD.out] at NX1
          have NX2 := Lib.hid NX1
          have HSS := Lib.hid (fun va ma W (hW : Below wr.heap.size wr W) (hr : StR W E va ma) => sameState_yes E va ma _ _ W hr (HF.out.st.old hbq |>.old hW))
          have HBQ := Lib.hid hbq; have HBS := Lib.hid bS
          have lt6 := bS.lt
          clear NX1 hbq bS jb hbel
          go_wp2_with fail
          refine PTr.out.mono ?_
          rintro e w5 ⟨rfl, rfl⟩
          go_wp2_with fail
          refine NX2.out.mono ?_
          rintro e w5 ⟨vv', mv', rfl, hf5, hb5⟩
          obtain ⟨A11, c11, rfl⟩ := hf5.st.vals.shape
          obtain ⟨A12, c12, rfl⟩ := hf5.st.mail.shape
          dsimp only [stV]
          rw [HD.out]
          have bk5 := HBS.out.old hb5
          have lt5 : w3.heap.size < w5.heap.size := bk5.lt
          clear b0 b1 b2 b3 b4 b5 j0 j1 j2 j3
          have d0 : w5.cell? ⟨w3.heap.size, 0, none⟩ = some (.int .i64 E.step) := bk5.cell 0
          have d1 : w5.cell? ⟨w3.heap.size, 1, none⟩ = some (.int .i64 E.phase) := bk5.cell 1
          have d2 : w5.cell? ⟨w3.heap.size, 2, none⟩ = some (.bool E.fresh) := bk5.cell 2
          have d3 : w5.cell? ⟨w3.heap.size, 3, none⟩ = some (.bool true) := bk5.cell 3
          have d4 : w5.cell? ⟨w3.heap.size, 4, none⟩ = some (.slice A7' E.vals.length c7') := bk5.cell 4
          have d5 : w5.cell? ⟨w3.heap.size, 5, none⟩ = some (.slice A8' E.mail.length c8') := bk5.cell 5
          have SS := HSS.out _ _ (w5.alloc (.cells #[.int .i64 E.step, .int .i64 E.phase, .bool E.fresh, .bool true, .slice A11 E.vals.length c11, .slice A12 E.mail.length c12] 32)) (hb5.alloc hb5.size _) (hf5.st.old (Below.of_alloc _ _))
          unfold stV at SS
          rw [HD.out] at SS
          have HS2 := Lib.hid SS
          have B5 := Lib.hid (HBQ.out.trans ((hb5.alloc hb5.size (.cells #[.int .i64 E.step, .int .i64 E.phase, .bool E.fresh, .bool true, .slice A11 E.vals.length c11, .slice A12 E.mail.length c12] 32)).mono HBQ.out.size))
          have sz5 := (hb5.alloc hb5.size (.cells #[.int .i64 E.step, .int .i64 E.phase, .bool E.fresh, .bool true, .slice A11 E.vals.length c11, .slice A12 E.mail.length c12] 32)).size
          clear SS bk5 hf5 hb5
          go_wp2_with fail
          refine HS2.out.mono ?_
          rintro e w6 ⟨rfl, hb6⟩
          have B6 := Lib.hid (B5.out.trans (hb6.mono (Nat.le_trans S1 sz5)))
          clear d0 d1 d2 d3 d4 d5
          go_wp2
          go_roundw
          case rel => exact ⟨i + 1, by omega, by go_num, B6.out⟩
          case measure => simp [intOf]; omega
        · have tl : decide ((i : Int) < pm) = false := by simpa using hlt
          have aX : Bk wr A 32 #[.int .i64 E.step, .int .i64 E.phase, .bool E.fresh, .bool true, .slice A7 E.vals.length c7, .slice A8 E.mail.length c8] := by have h := HX.out.old hbel; rw [HD.out] at h; exact h
          have a0 : wr.cell? ⟨A, 0, none⟩ = some (.int .i64 E.step) := aX.cell 0
          have a1 : wr.cell? ⟨A, 1, none⟩ = some (.int .i64 E.phase) := aX.cell 1
          have a2 : wr.cell? ⟨A, 2, none⟩ = some (.bool E.fresh) := aX.cell 2
          have a3 : wr.cell? ⟨A, 3, none⟩ = some (.bool true) := aX.cell 3
          have a4 : wr.cell? ⟨A, 4, none⟩ = some (.slice A7 E.vals.length c7) := aX.cell 4
          have a5 : wr.cell? ⟨A, 5, none⟩ = some (.slice A8 E.mail.length c8) := aX.cell 5
          have SS := sameState_yes E _ _ _ _ wr (HF.out.st.old hbq) (HST.out.old hbel)
          unfold stV at SS
          rw [HD.out] at SS
          have HS2 := Lib.hid SS
          have B5 := Lib.hid (HB4.out.trans (hbel.mono HB4.out.size))
          have HBS := Lib.hid bS
          clear SS bS aX hbel hbq
          go_wp2_with fail
          refine PTr.out.mono ?_
          rintro e w5 ⟨rfl, rfl⟩
          go_wp2_with fail
          refine HS2.out.mono ?_
          rintro e w6 ⟨rfl, hb6⟩
          clear a0 a1 a2 a3 a4 a5 b0 b1 b2 b3 b4 b5
          have bk6 := HBS.out.old hb6
          have d0 : w6.cell? ⟨w3.heap.size, 0, none⟩ = some (.int .i64 E.step) := bk6.cell 0
          have d3 : w6.cell? ⟨w3.heap.size, 3, none⟩ = some (.bool true) := bk6.cell 3
          have B6 := Lib.hid (B5.out.trans (hb6.mono B5.out.size))
          clear bk6 hb6
          go_wp2_with fail
          go_ret
          exact ⟨rfl, B6.out⟩
end Go.Proofs.Ytbholafggbdieaa
