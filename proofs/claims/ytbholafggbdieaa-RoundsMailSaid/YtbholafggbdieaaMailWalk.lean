/- RoundsMail: the walk. -/
import Derived.Test.YtbholafggbdieaaMailLaw
import Derived.Test.YtbholafggbdieaaJobGood
import Derived.Test.YtbholafggbdieaaZones
namespace Go.Proofs.Ytbholafggbdieaa
open Go.RowKit

set_option maxRecDepth 10000 in
set_option maxHeartbeats 4000000 in
theorem mail_any (n0 kind src to : Int) (ws : List Wy) (v : Value) (w : World) (hn : I64 n0) (hk : I64 kind) (hs : I64 src) (ht : I64 to) (hv : Sl 3 encW w w.heap.size v ws) (hw : ∀ x ∈ ws, I64 x.f ∧ I64 x.t ∧ I64 x.g) :
    Calls Try.prog 3 #[.int .i64 n0, v, .int .i64 kind, .int .i64 src, .int .i64 to] w fun e w' => e = .returned (.bool true) ∧ Below w.heap.size w w' := by
  have JB := Lib.hid (job_any n0 kind src ws v w hn hk hs hv hw)
  obtain ⟨hj, hm, hn8, hl10, heg⟩ := jobG_good n0 ws kind src
  generalize jobG n0 ws kind src = j at *
  clear hv hw heg hl10
  have PT := Lib.hid (fun W => picked_any to 12 ht (by omega) (by omega) W)
  obtain ⟨pt0, pt1⟩ := pick_range to 12 (by omega)
  generalize pickG to 12 = pm at *
  have BG := Lib.hid (fun ev W he => begin_any j hj ev W he)
  have OKI := Lib.hid (fun (k : Nat) (hk : k ≤ 20) => ok_it hj hm (ok_begin hj) k (by have : (beginG j).step = 0 := rfl; omega))
  have NX := Lib.hid (fun (k : Nat) (hk : k ≤ 20) ev vv mv W he (hr : StR W (itG j k (beginG j)) vv mv) =>
    next_any hj hm (ok_it hj hm (ok_begin hj) k (by have : (beginG j).step = 0 := rfl; omega)) (by have := step_le j (beginG j) k; have e : (beginG j).step = 0 := rfl; omega) ev vv mv W he hr)
  have GJ := Lib.hid hj
  have FEW := Lib.hid hm.few
  clear hj hm
  go_enter Try.func3, Try.ntmps3
  go_wp2_with fail
  refine JB.out.mono ?_
  rintro e w1 ⟨ev, rfl, hsl, hb1, _⟩
  obtain ⟨A0, c0, rfl⟩ := hsl.shape
  have J1 := Bk.new w1 27 #[.int .i64 j.n, .slice A0 j.es.length c0, .int .i64 j.kind, .int .i64 j.src]
  have B1 := Below.of_alloc w1 (.cells #[.int .i64 j.n, .slice A0 j.es.length c0, .int .i64 j.kind, .int .i64 j.src] 27)
  have sl1 := hsl.old B1
  have hs1 := hb1.size
  have HB1 := Lib.hid (hb1.trans (B1.mono hb1.size))
  have sz1 : (w1.alloc (.cells #[.int .i64 j.n, .slice A0 j.es.length c0, .int .i64 j.kind, .int .i64 j.src] 27)).heap.size = w1.heap.size + 1 := by simp
  clear hsl hb1 B1
  go_wp2_with fail
  generalize hJ : w1.heap.size = J at *
  generalize (w1.alloc (.cells #[.int .i64 j.n, .slice A0 j.es.length c0, .int .i64 j.kind, .int .i64 j.src] 27)) = W1 at *
  clear hJ
  have j0 : W1.cell? ⟨J, 0, none⟩ = some (.int .i64 j.n) := J1.cell 0
  have j1 : W1.cell? ⟨J, 1, none⟩ = some (.slice A0 j.es.length c0) := J1.cell 1
  have j2 : W1.cell? ⟨J, 2, none⟩ = some (.int .i64 j.kind) := J1.cell 2
  have j3 : W1.cell? ⟨J, 3, none⟩ = some (.int .i64 j.src) := J1.cell 3
  go_wp2_with fail
  refine (BG.out _ _ sl1).mono ?_
  rintro e w3 ⟨vb, mb, rfl, hr3, hb3⟩
  obtain ⟨A9, c9, rfl⟩ := hr3.st.vals.shape
  obtain ⟨A10, c10, rfl⟩ := hr3.st.mail.shape
  dsimp only [stV]
  have HJ := Lib.hid (J1.old hb3)
  have HSL := Lib.hid (sl1.old hb3)
  have HB4 := Lib.hid (HB1.out.trans (hb3.mono HB1.out.size))
  have HR := Lib.hid ((hr3.less (show J + 1 ≤ W1.heap.size by omega)).old (Below.of_alloc w3 (.cells (stV (beginG j) (.slice A9 (beginG j).vals.length c9) (.slice A10 (beginG j).mail.length c10)) 32)))
  have LT3 : J < w3.heap.size := HJ.out.lt
  clear j0 j1 j2 j3 J1 sl1 hr3 hb3
  go_wp2_with fail
  go_loopw [13, 14] (fun f e wr => ∃ (k : Nat) (vv mv : Value), (k : Int) ≤ pm ∧ f = .int .i64 0 ∧ e = .int .i64 k ∧ Bk wr w3.heap.size 32 (stV (itG j k (beginG j)) vv mv) ∧ FreshSt (J + 1) wr (itG j k (beginG j)) vv mv ∧ Below w3.heap.size w3 wr) (fun _ e _ => pm.toNat - (intOf e).toNat)
  case atStart => exact ⟨0, _, _, by omega, rfl, rfl, Bk.new w3 _ _, HR.out, Below.of_alloc _ _⟩
  case round =>
    obtain ⟨k, vv, mv, hk, rfl, rfl, hb, hf, hbel⟩ := hrel
    obtain ⟨A7', c7', rfl⟩ := hf.st.vals.shape
    obtain ⟨A8', c8', rfl⟩ := hf.st.mail.shape
    have NXk := Lib.hid (fun W (hW : Below wr.heap.size wr W) => NX.out k (by omega) _ _ _ W ((HSL.out.old hbel).old hW) (hf.st.old hW))
    have IS := Lib.hid (itG_succ j k (beginG j))
    have OKk := Lib.hid (OKI.out k (by omega))
    generalize itG j k (beginG j) = s at *
    have b0 : wr.cell? ⟨w3.heap.size, 0, none⟩ = some (.int .i64 s.step) := hb.cell 0
    have b1 : wr.cell? ⟨w3.heap.size, 1, none⟩ = some (.int .i64 s.phase) := hb.cell 1
    have b2 : wr.cell? ⟨w3.heap.size, 2, none⟩ = some (.bool s.fresh) := hb.cell 2
    have b3 : wr.cell? ⟨w3.heap.size, 3, none⟩ = some (.bool s.done) := hb.cell 3
    have b4 : wr.cell? ⟨w3.heap.size, 4, none⟩ = some (.slice A7' s.vals.length c7') := hb.cell 4
    have b5 : wr.cell? ⟨w3.heap.size, 5, none⟩ = some (.slice A8' s.mail.length c8') := hb.cell 5
    have jb := HJ.out.old hbel
    have j0 : wr.cell? ⟨J, 0, none⟩ = some (.int .i64 j.n) := jb.cell 0
    have j1 : wr.cell? ⟨J, 1, none⟩ = some (.slice A0 j.es.length c0) := jb.cell 1
    have j2 : wr.cell? ⟨J, 2, none⟩ = some (.int .i64 j.kind) := jb.cell 2
    have j3 : wr.cell? ⟨J, 3, none⟩ = some (.int .i64 j.src) := jb.cell 3
    have PTr := Lib.hid (PT.out wr)
    have S0 := hbel.size
    have NX2 := Lib.hid (NXk.out wr (Below.refl _ _))
    have hBl := Lib.hid hbel; have HBK := Lib.hid hb; have HF := Lib.hid hf
    by_cases hlt : (k : Int) < pm
    · have tl : decide ((k : Int) < pm) = true := by simpa using hlt
      clear hb hf hbel jb
      go_wp2_with fail
      refine PTr.out.mono ?_
      rintro e w4 ⟨rfl, rfl⟩
      go_wp2_with fail
      refine NX2.out.mono ?_
      rintro e w5 ⟨vv', mv', rfl, hf5, hb5⟩
      obtain ⟨A11, c11, rfl⟩ := hf5.st.vals.shape
      obtain ⟨A12, c12, rfl⟩ := hf5.st.mail.shape
      dsimp only [stV]
      have bk5 := HBK.out.old hb5
      have lt5 : w3.heap.size < w5.heap.size := bk5.lt
      have d0 : w5.cell? ⟨w3.heap.size, 0, none⟩ = some (.int .i64 s.step) := bk5.cell 0
      have d1 : w5.cell? ⟨w3.heap.size, 1, none⟩ = some (.int .i64 s.phase) := bk5.cell 1
      have d2 : w5.cell? ⟨w3.heap.size, 2, none⟩ = some (.bool s.fresh) := bk5.cell 2
      have d3 : w5.cell? ⟨w3.heap.size, 3, none⟩ = some (.bool s.done) := bk5.cell 3
      have d4 : w5.cell? ⟨w3.heap.size, 4, none⟩ = some (.slice A7' s.vals.length c7') := bk5.cell 4
      have d5 : w5.cell? ⟨w3.heap.size, 5, none⟩ = some (.slice A8' s.mail.length c8') := bk5.cell 5
      have f0 := bk5.froz 0
      have f1 := bk5.froz 1
      have f2 := bk5.froz 2
      have f3 := bk5.froz 3
      have f4 := bk5.froz 4
      have f5 := bk5.froz 5
      clear b0 b1 b2 b3 b4 b5 j0 j1 j2 j3
      have P6 := Lib.hid (put6_bk bk5 (.int .i64 (nextG j s).step) (.int .i64 (nextG j s).phase) (.bool (nextG j s).fresh) (.bool (nextG j s).done) (.slice A11 (nextG j s).vals.length c11) (.slice A12 (nextG j s).mail.length c12))
      have F6 := Lib.hid ((hf5.put6 HBK.out.lt (.int .i64 (nextG j s).step) (.int .i64 (nextG j s).phase) (.bool (nextG j s).fresh) (.bool (nextG j s).done) (.slice A11 (nextG j s).vals.length c11) (.slice A12 (nextG j s).mail.length c12)).less (show J + 1 ≤ _ by omega))
      have B6 := Lib.hid (put6_below (hBl.out.trans (hb5.mono hBl.out.size)) (Nat.le_refl _) (.int .i64 (nextG j s).step) (.int .i64 (nextG j s).phase) (.bool (nextG j s).fresh) (.bool (nextG j s).done) (.slice A11 (nextG j s).vals.length c11) (.slice A12 (nextG j s).mail.length c12))
      clear bk5 hf5 hb5
      go_wp2
      go_roundw
      case rel =>
        refine ⟨k + 1, .slice A11 (nextG j s).vals.length c11, .slice A12 (nextG j s).mail.length c12, by omega, rfl, by go_num, ?_, ?_, B6.out⟩
        · rw [IS.out]; exact P6.out
        · rw [IS.out]; exact F6.out
      case measure => simp [intOf]; omega
    · have tl : decide ((k : Int) < pm) = false := by simpa using hlt
      have hv := OKk.out.good.vlen
      have tv : (((s.vals.length : Nat) : Int) != j.n) = false := by simp [hv]
      clear hb hf hbel jb
      go_wp2_with fail
      refine PTr.out.mono ?_
      rintro e w4 ⟨rfl, rfl⟩
      go_wp2_with fail
      refine NX2.out.mono ?_
      rintro e w5 ⟨vv', mv', rfl, hf5, hb5⟩
      obtain ⟨A11, c11, rfl⟩ := hf5.st.vals.shape
      obtain ⟨A12, c12, rfl⟩ := hf5.st.mail.shape
      dsimp only [stV]
      have MN := many_next GJ.out OKk.out.good
      have GN := (OKI.out (k + 1) (by omega)).good
      rw [IS.out] at GN
      generalize hN : nextG j s = N at *
      have bk5 := HBK.out.old hb5
      have lt5 : w3.heap.size < w5.heap.size := bk5.lt
      have BA := Below.of_alloc w5 (.cells #[.int .i64 N.step, .int .i64 N.phase, .bool N.fresh, .bool N.done, .slice A11 N.vals.length c11, .slice A12 N.mail.length c12] 32)
      have X6 := Bk.new w5 32 #[.int .i64 N.step, .int .i64 N.phase, .bool N.fresh, .bool N.done, .slice A11 N.vals.length c11, .slice A12 N.mail.length c12]
      have F6 := Lib.hid (hf5.st.old BA)
      have B6 := hb5.trans (BA.mono hb5.size)
      have S6 := Lib.hid (hBl.out.trans (B6.mono hBl.out.size))
      have B7 := Lib.hid B6
      have GN2 := Lib.hid GN; have MN2 := Lib.hid MN; have HN := Lib.hid hN
      clear b0 b1 b2 b3 b4 b5 j0 j1 j2 j3 bk5 BA hf5 hb5 B6 GN MN hN
      go_wp2_with fail
      generalize hA : w5.heap.size = A at *
      generalize (w5.alloc (.cells #[.int .i64 N.step, .int .i64 N.phase, .bool N.fresh, .bool N.done, .slice A11 N.vals.length c11, .slice A12 N.mail.length c12] 32)) = W6 at *
      obtain ⟨vs, hvs, ⟨M, d, hMe, hmc, hmm, hM⟩, hrows⟩ := F6.out.mail
      rw [hvs] at hMe
      injection hMe with g1 g2 g3
      subst g1 g3
      have HM := Lib.hid hM; have HROWS := Lib.hid hrows; have HVS := Lib.hid hvs
      have m5 : W6.cell? ⟨A, 5, none⟩ = some (.slice A12 N.mail.length c12) := X6.cell 5
      have GM := Lib.hid GN2.out.few
      unfold maxLen at hmm
      rw [hvs] at hmc
      clear hM hrows hvs g2
      go_loopw [17, 18] (fun m e wr => ∃ q : Nat, q ≤ N.mail.length ∧ m = .int .i64 (total (N.mail.take q) : Nat) ∧ e = .int .i64 q ∧ Below W6.heap.size W6 wr) (fun _ e _ => N.mail.length - (intOf e).toNat)
      case atStart => exact ⟨0, by omega, by simp [total], rfl, Below.refl _ _⟩
      case round =>
        obtain ⟨q, hq, rfl, rfl, hbr⟩ := hrel
        have m5' : wr.cell? ⟨A, 5, none⟩ = some (.slice A12 N.mail.length c12) := (X6.old hbr).cell 5
        clear m5
        by_cases hlq : q < N.mail.length
        · obtain ⟨bm, om, ebm, hbm, hcm⟩ := HM.out (by rw [HVS.out]; omega)
          obtain ⟨u, hu⟩ : ∃ u, vs[q]? = some u := ⟨_, List.getElem?_eq_getElem (by rw [HVS.out]; exact hlq)⟩
          obtain ⟨l, hl⟩ : ∃ l, N.mail[q]? = some l := ⟨_, List.getElem?_eq_getElem hlq⟩
          subst ebm
          have a0 : wr.cell? ⟨bm, om + q, none⟩ = some u := (hbr.cell (p := ⟨bm, _, none⟩) hbm).trans (by simpa using hcm q u hu 0 _ rfl)
          obtain ⟨AL, cl, rfl⟩ := (HROWS.out q u l hu hl).shape
          have tt := total_take_len N.mail q l hl
          have tw : IntKind.i64.wrap ((total (N.mail.take q) : Int) + (l.length : Int)) = (total (N.mail.take (q + 1)) : Int) := by
            have t2 := total_le N.mail (q + 1)
            have t3 := GM.out
            rw [tt] at t2 ⊢
            rw [IntWalk.i64_in _ (by omega)]; omega
          clear hu hl hcm
          go_wp2
          go_roundw
          case rel => exact ⟨q + 1, by omega, by go_num, by go_num, by first | exact hbr | exact hbr.drew⟩
          case measure => simp [intOf]; omega
        · obtain rfl : q = N.mail.length := by omega
          rw [List.take_length]
          have X7 := Lib.hid (X6.old hbr)
          have HB7 := Lib.hid hbr
          have hsr := hbr.size
          have T7 := Lib.hid (S6.out.trans (hbr.mono S6.out.size))
          have J7 := HJ.out.old T7.out
          have n0 : wr.cell? ⟨J, 0, none⟩ = some (.int .i64 j.n) := J7.cell 0
          have hn0 := GJ.out.n0
          have hn1 := GJ.out.top
          obtain ⟨nn, hnn⟩ : ∃ nn : Nat, j.n = (nn : Int) := ⟨j.n.toNat, by omega⟩
          rw [hnn] at n0
          have HNN := Lib.hid hnn
          go_wp2_with fail
          clear m5'
          generalize hwq : wr = wq at *
          clear hwq
          go_loopw [19, 20] (fun m e wr => ∃ x : Nat, x ≤ nn ∧ m = .int .i64 ((if s.done then 0 else (msgsG j s x).length : Nat) : Int) ∧ e = .int .i64 x ∧ Below wq.heap.size wq wr) (fun _ e _ => nn - (intOf e).toNat)
          case atStart => exact ⟨0, by omega, by cases s.done <;> simp [msgsG], rfl, Below.refl _ _⟩
          case round =>
            obtain ⟨x, hx, rfl, rfl, hbx⟩ := hrel
            have hsx := hbx.size
            have T8 := Lib.hid (T7.out.trans (hbx.mono T7.out.size))
            have J8 := Lib.hid (HJ.out.old T8.out)
            have n0' : wr.cell? ⟨J, 0, none⟩ = some (.int .i64 (nn : Int)) := by rw [← HNN.out]; exact J8.out.cell 0
            have X8 := Lib.hid (X7.out.old hbx)
            clear n0
            by_cases hxn : x < nn
            · have tx : decide ((x : Int) < (nn : Int)) = true := by simp; omega
              have b3 : wr.cell? ⟨w3.heap.size, 3, none⟩ = some (.bool s.done) := (HBK.out.old (B7.out.trans ((HB7.out.trans (hbx.mono HB7.out.size)).mono B7.out.size))).cell 3
              cases hd : s.done
              · have OS := OKk.out.good
                have hvl := OS.vlen
                have hml := OS.mlen
                rw [hd] at b3
                have bS := HBK.out.old (B7.out.trans ((HB7.out.trans (hbx.mono HB7.out.size)).mono B7.out.size))
                have b0 : wr.cell? ⟨w3.heap.size, 0, none⟩ = some (.int .i64 s.step) := bS.cell 0
                have b1 : wr.cell? ⟨w3.heap.size, 1, none⟩ = some (.int .i64 s.phase) := bS.cell 1
                have b2 : wr.cell? ⟨w3.heap.size, 2, none⟩ = some (.bool s.fresh) := bS.cell 2
                have st := HF.out.st.old (B7.out.trans ((HB7.out.trans (hbx.mono HB7.out.size)).mono B7.out.size))
                obtain ⟨ov, vA, cv, ev, hcv1, hcv2, hbv, hcellv⟩ := st.vals.at_ (k := x) (by omega)
                obtain ⟨us, hus, hslm, hrowm⟩ := st.mail
                obtain ⟨om, mA, cm, em, hcm1, hcm2, hbm, hcellm⟩ := hslm.at_ (k := x) (by omega)
                obtain ⟨u, hu⟩ : ∃ u, us[x]? = some u := ⟨_, List.getElem?_eq_getElem (by omega)⟩
                obtain ⟨l, hl⟩ : ∃ l, s.mail[x]? = some l := ⟨_, List.getElem?_eq_getElem (by omega)⟩
                obtain ⟨y, hy⟩ : ∃ y, s.vals[x]? = some y := ⟨_, List.getElem?_eq_getElem (by omega)⟩
                obtain ⟨ya, yl⟩ := y
                have uc : wr.cell? ⟨om, mA + x, none⟩ = some u := by simpa using hcellm x u hu 0 _ rfl
                have y0 : wr.cell? ⟨ov, vA + x * 2, none⟩ = some (.int .i64 ya) := by simpa using hcellv x _ hy 0 _ rfl
                have y1 : wr.cell? ⟨ov, vA + x * 2 + 1, none⟩ = some (.int .i64 yl) := by simpa using hcellv x _ hy 1 _ rfl
                have SLu := hrowm x u l hu hl
                obtain ⟨AU, cu, rfl⟩ := SLu.shape
                have b4 : wr.cell? ⟨w3.heap.size, 4, none⟩ = some (.slice (some ⟨ov, vA, none⟩) s.vals.length cv) := by rw [← ev]; exact bS.cell 4
                have b5 : wr.cell? ⟨w3.heap.size, 5, none⟩ = some (.slice (some ⟨om, mA, none⟩) us.length cm) := by rw [← em]; exact bS.cell 5
                have HSU := Lib.hid SLu; have HY := Lib.hid hy; have HLL := Lib.hid hl; have HBS := Lib.hid bS; have HS := Lib.hid st; have HOS := Lib.hid OS
                have HD := Lib.hid hd
                have xv : x < s.vals.length := by omega
                have xm : x < us.length := by omega
                unfold maxLen at hcv2 hcm2
                have MS := Lib.hid (msgs_succ_len j s x)
                clear hcellm hcellv hrowm hslm hu hl hy st OS SLu bS hus ev em
                simp only [Bool.false_eq_true, if_false]
                by_cases hsk : s.fresh = false ∧ l = []
                · obtain ⟨hf0, rfl⟩ := hsk
                  rw [hf0] at b2
                  have MV : Hid ((msgV j s x).length = 0) := by
                    have hw : wokeG j s x = (s.vals[x]?.getD ⟨-1, -1⟩, false) := by unfold wokeG; exact if_pos ⟨hf0, by rw [HLL.out]; rfl⟩
                    unfold Hid msgV; rw [hw]; rfl
                  go_wp2
                  go_roundw
                  case rel => exact ⟨x + 1, by omega, by rw [MS.out, MV.out]; rfl, by go_num, hbx⟩
                  case measure => simp [intOf]; omega
                · have hcase : s.fresh = true ∨ (s.fresh = false ∧ (((l.length : Nat) : Int) == 0) = false) := by
                    cases hf : s.fresh
                    · right
                      refine ⟨rfl, ?_⟩
                      cases l with
                      | nil => exact absurd ⟨hf, rfl⟩ hsk
                      | cons a l => simp; omega
                    · exact Or.inl rfl
                  have WS : Hid (wokeG j s x = wakeG j.kind x j.src ⟨ya, yl⟩ s.phase s.fresh l) := by unfold Hid; rw [wokeG_at HY.out HLL.out, if_neg hsk]
                  have WK := Lib.hid (fun W (hb : Below wr.heap.size wr W) => wake_in (w := W) GJ.out HOS.out (k := x) (by rw [HNN.out]; omega) (u := .slice AU l.length cu) (by have h1 := HSU.out.old hb; rw [HLL.out]; exact h1))
                  have EX : Hid (s.vals[x]?.getD ⟨-1, -1⟩ = ⟨ya, yl⟩ ∧ s.mail[x]?.getD [] = l) := ⟨by rw [HY.out]; rfl, by rw [HLL.out]; rfl⟩
                  rw [EX.out.1, EX.out.2] at WK
                  simp only at WK
                  rw [← WS.out] at WK
                  have MV : Hid (msgV j s x = if (wokeG j s x).2 = true then sayV j.kind s.phase x (wokeG j s x).1 j.es else []) := rfl
                  clear hsk
                  generalize wokeG j s x = pp at *
                  obtain ⟨⟨pa, pl⟩, ps⟩ := pp
                  simp only at WK MV
                  have WY := Lib.hid (fun W => ways_any j.kind s.phase GJ.out.kind HOS.out.phase W)
                  rcases hcase with hfr | ⟨hfr, hlz⟩
                  · skip
                    rw [hfr] at b2 WK
                    clear hfr
                    have MSH : MailS J w3.heap.size j s true (.slice (some ⟨ov, vA, none⟩) s.vals.length cv) (.slice (some ⟨om, mA, none⟩) us.length cm) ⟨ov, vA + x * 2, none⟩ ⟨om, mA + x, none⟩ (.slice AU l.length cu) ya yl wr := ⟨J8.out.cell 2, J8.out.cell 3, b1, b2, b4, b5, y0, y1, uc⟩
                    have HMS := Lib.hid MSH
                    go_wp2_with fail
                    refine wp_region_zs (MailS J w3.heap.size j s true (.slice (some ⟨ov, vA, none⟩) s.vals.length cv) (.slice (some ⟨om, mA, none⟩) us.length cm) ⟨ov, vA + x * 2, none⟩ ⟨om, mA + x, none⟩ (.slice AU l.length cu) ya yl) [] (by kernel_rfl) ?_
                    refine wpZ_batch (is := [0, 1, 2, 3, 4, 5, 6, 7, 8, 9, 10, 11, 12, 13, 14, 15, 16, 17, 18]) (by kernel_rfl) (MSH.old (Below.refl _ _).drew) (a1 := ?_) ?_ ?_
                    rotate_left
                    · repeat
                        (refine SeqY.run (v := ?_) rfl (by rfl) ?_ ?_
                         rotate_left
                         · (intro W hS; cases hS; go_simp; (try with_reducible rfl)))
                      exact SeqY.nil
                    have B0 := (Below.refl wr.heap.size wr)
                    refine wpZ_call (i := 19) (k := 24) (is := [20, 21, 22, 23]) (v1 := .tuple #[.agg #[.int .i64 pa, .int .i64 pl], .bool ps, .int .i64 0]) (a1 := ?_) (WakeK wr) (by kernel_rfl) rfl rfl rfl rfl ?_ ?_ ?_ ?_
                    rotate_left
                    · unfold Gives
                      go_simp
                      refine (WK.out _ (Below.refl _ _).drew).mono ?_
                      rintro e w9 ⟨rfl, hb⟩
                      have hb9 : Below wr.heap.size wr w9 := (Below.refl _ _).drew.trans hb
                      exact ⟨_, rfl, rfl, HMS.out.old hb9, HMS.out.old (hb9.alloc hb9.size _), _, rfl, Bk.new _ _ _, hb9.alloc hb9.size _, hb9.size⟩
                    · unfold Gives
                      go_simp
                      have hbA : Below wr.heap.size wr (wr.alloc (.cells #[.int .i64 0, .int .i64 0] 40)).drew := ((Below.refl _ _).alloc (Nat.le_refl _) _).drew
                      refine ⟨HMS.out.old hbA, ?_⟩
                      refine (WK.out _ hbA).mono ?_
                      rintro e w9 ⟨rfl, hb⟩
                      have hb9 : Below wr.heap.size wr w9 := hbA.trans (hb.mono hbA.size)
                      exact ⟨_, rfl, rfl, HMS.out.old hb9, _, rfl, ((Bk.new wr 40 #[.int .i64 0, .int .i64 0]).drew).old hb, hb9, Nat.le_refl _⟩
                    · repeat
                        (refine SeqY.run (v := ?_) rfl (by rfl) ?_ ?_
                         rotate_left
                         · (intro W hS; cases hS; go_simp; (try with_reducible rfl)))
                      exact SeqY.nil
                    intro v2 w9 hS9 hK9
                    obtain ⟨p, rfl, hP9, hb9, hpge⟩ := hK9
                    have p0 := hP9.cell 0
                    have p1 := hP9.cell 1
                    have pf0 := hP9.froz 0
                    have pf1 := hP9.froz 1
                    simp only [List.getElem?_toArray] at p0 p1
                    clear hP9 hS9
                    refine wpZ_one (i := 25) (by kernel_rfl) rfl (fun K hK => ?_)
                    go_simp
                    have hb10 := (hb9.setCell (p := ⟨p, 0, none⟩) hpge (.int .i64 pa)).setCell (p := ⟨p, 1, none⟩) hpge (.int .i64 pl)
                    refine hK.out _ _ (HMS.out.old hb10) (fun hS11 => ?_)
                    clear hK K p0 p1 pf0 pf1 hb9 B0
                    have HB10 := Lib.hid hb10; clear hb10
                    refine wpZ_batch (is := [26, 27]) (by kernel_rfl) hS11 (a1 := ?_) ?_ ?_
                    rotate_left
                    · repeat
                        (refine SeqY.run (v := ?_) rfl (by rfl) ?_ ?_
                         rotate_left
                         · (intro W hS; cases hS; go_simp; (try with_reducible rfl)))
                      exact SeqY.nil
                    clear hS11
                    refine wpZ_done (by kernel_rfl) ?_
                    generalize ((w9.setCell ⟨p, 0, none⟩ (.int .i64 pa)).setCell ⟨p, 1, none⟩ (.int .i64 pl)) = w10 at *
                    have WYE := Lib.hid (WY.out w10)
                    have HM10 := HMS.out.old HB10.out
                    have k0 : w10.cell? ⟨J, 2, none⟩ = some (.int .i64 j.kind) := HM10.c0
                    have k1 : w10.cell? ⟨w3.heap.size, 1, none⟩ = some (.int .i64 s.phase) := HM10.c2
                    clear HM10 b0 b1 b2 b3 b4 b5 n0' y0 y1 uc
                    go_wp2_with fail
                    refine WYE.out.mono ?_
                    rintro e w11 ⟨rfl, hb11⟩
                    have T11 := Lib.hid (T8.out.trans ((HB10.out.trans (hb11.mono HB10.out.size)).mono T8.out.size))
                    have HB11 := Lib.hid (hbx.trans ((HB10.out.trans (hb11.mono HB10.out.size)).mono hbx.size))
                    clear hb11 k0 k1
                    obtain ⟨og, hog⟩ : ∃ og, outG j.kind s.phase = og := ⟨_, rfl⟩
                    obtain ⟨ig, hig⟩ : ∃ ig, inG j.kind s.phase = ig := ⟨_, rfl⟩
                    rw [hog, hig]
                    have HOG := Lib.hid hog; have HIG := Lib.hid hig
                    clear hog hig
                    have J11 := HJ.out.old T11.out
                    have j1 : w11.cell? ⟨J, 1, none⟩ = some (.slice A0 j.es.length c0) := J11.cell 1
                    have SL11 := Lib.hid (HSL.out.old T11.out)
                    have HJ11 := Lib.hid J11
                    have hl10 := (checkG_zero GJ.out.g).2.2.1
                    have hx200 := GJ.out.top
                    have ML := msgs_len j s x
                    have MX : x * (2 * j.es.length) ≤ 200 * 1200 := Nat.mul_le_mul (by have := HNN.out; omega) (by omega)
                    clear J11
                    go_wp2_with fail
                    cases ps
                    · go_loopw [19, 27] (fun m i wr => m = .int .i64 ((msgsG j s x).length : Nat) ∧ i = .int .i64 0 ∧ Below w11.heap.size w11 wr) (fun _ _ _ => 0)
                      case atStart => exact ⟨rfl, rfl, Below.refl _ _⟩
                      case round =>
                        obtain ⟨rfl, rfl, hbq⟩ := hrel
                        have j1' : wr.cell? ⟨J, 1, none⟩ = some (.slice A0 j.es.length c0) := (HJ11.out.old hbq).cell 1
                        have HB12 := Lib.hid (HB11.out.trans (hbq.mono HB11.out.size))
                        have MV0 : Hid ((msgV j s x).length = 0) := by unfold Hid; rw [MV.out]; rfl
                        clear j1 hbq ML MX
                        rcases Nat.eq_zero_or_pos j.es.length with hz | hz
                        · have tz : decide (0 < j.es.length) = false := decide_eq_false (by omega)
                          have tz2 : decide ((0 : Int) < (j.es.length : Int)) = false := decide_eq_false (by omega)
                          go_wp2
                          go_roundw
                          case rel => exact ⟨x + 1, by omega, by rw [MS.out, MV0.out, Nat.add_zero], by go_num, HB12.out⟩
                          case measure => simp [intOf]; omega
                        · have tz : decide (0 < j.es.length) = true := decide_eq_true (by omega)
                          have tz2 : decide ((0 : Int) < (j.es.length : Int)) = true := decide_eq_true (by omega)
                          go_wp2
                          go_roundw
                          case rel => exact ⟨x + 1, by omega, by rw [MS.out, MV0.out, Nat.add_zero], by go_num, HB12.out⟩
                          case measure => simp [intOf]; omega
                    · go_loopw [19, 27] (fun m i wr => ∃ i' : Nat, i' ≤ j.es.length ∧ m = .int .i64 (((msgsG j s x).length + (sayV j.kind s.phase x ⟨pa, pl⟩ (j.es.take i')).length : Nat) : Int) ∧ i = .int .i64 i' ∧ Below w11.heap.size w11 wr) (fun _ i _ => j.es.length - (intOf i).toNat)
                      case atStart => exact ⟨0, by omega, by simp [sayV], rfl, Below.refl _ _⟩
                      case round =>
                        obtain ⟨i, hi, rfl, rfl, hbq⟩ := hrel
                        have j1' : wr.cell? ⟨J, 1, none⟩ = some (.slice A0 j.es.length c0) := (HJ11.out.old hbq).cell 1
                        clear j1
                        by_cases hlt : i < j.es.length
                        · obtain ⟨oe, eA, ce, ee, hce1, hce2, hbe, hcelle⟩ := (SL11.out.old hbq).at_ (k := i) hlt
                          injection ee with g1 g2 g3
                          subst g1
                          obtain ⟨⟨ef, et, eg⟩, hee⟩ : ∃ e, j.es[i]? = some e := ⟨_, List.getElem?_eq_getElem hlt⟩
                          have e0 : wr.cell? ⟨oe, eA + i * 3, none⟩ = some (.int .i64 ef) := by simpa using hcelle i _ hee 0 _ rfl
                          have e1 : wr.cell? ⟨oe, eA + i * 3 + 1, none⟩ = some (.int .i64 et) := by simpa using hcelle i _ hee 1 _ rfl
                          have TL := sayV_take_len j.kind s.phase x ⟨pa, pl⟩ j.es i _ hee
                          rw [HOG.out, HIG.out] at TL
                          simp only at TL
                          have SLB := sayV_len j.kind s.phase x ⟨pa, pl⟩ j.es i
                          obtain ⟨L, hL⟩ : ∃ L, (msgsG j s x).length + (sayV j.kind s.phase x ⟨pa, pl⟩ (j.es.take i)).length = L := ⟨_, rfl⟩
                          rw [hL]
                          have hLb : L ≤ 300000 := by omega
                          have TK : Hid ((msgsG j s x).length + (sayV j.kind s.phase x ⟨pa, pl⟩ (j.es.take (i + 1))).length = L + (if og = true ∧ ef = (x : Int) then 1 else 0) + (if ig = true ∧ et = (x : Int) then 1 else 0)) := by
                            unfold Hid; rw [TL, ← hL]; omega
                          have HBQ := Lib.hid hbq
                          clear hbq hee hcelle TL SLB hL g2 ML MX
                          subst g3
                          have tt : decide (i < j.es.length) = true := by simp; omega
                          by_cases hef : ef = (x : Int)
                          · by_cases het : et = (x : Int)
                            · rw [hef] at e0
                              rw [het] at e1
                              cases og <;> cases ig
                              · skip
                                go_wp2
                                go_roundw
                                case rel => exact ⟨i + 1, by omega, by rw [show (msgsG j s x).length + (sayV j.kind s.phase x ⟨pa, pl⟩ (j.es.take (i + 1))).length = L + 0 from by rw [TK.out]; simp [hef, het]]; go_num, by go_num, by first | exact HBQ.out | exact HBQ.out.drew⟩
                                case measure => simp [intOf]; omega
                              · skip
                                go_wp2
                                go_roundw
                                case rel => exact ⟨i + 1, by omega, by rw [show (msgsG j s x).length + (sayV j.kind s.phase x ⟨pa, pl⟩ (j.es.take (i + 1))).length = L + 1 from by rw [TK.out]; simp [hef, het]]; go_num, by go_num, by first | exact HBQ.out | exact HBQ.out.drew⟩
                                case measure => simp [intOf]; omega
                              · skip
                                go_wp2
                                go_roundw
                                case rel => exact ⟨i + 1, by omega, by rw [show (msgsG j s x).length + (sayV j.kind s.phase x ⟨pa, pl⟩ (j.es.take (i + 1))).length = L + 1 from by rw [TK.out]; simp [hef, het]]; go_num, by go_num, by first | exact HBQ.out | exact HBQ.out.drew⟩
                                case measure => simp [intOf]; omega
                              · skip
                                go_wp2
                                go_roundw
                                case rel => exact ⟨i + 1, by omega, by rw [show (msgsG j s x).length + (sayV j.kind s.phase x ⟨pa, pl⟩ (j.es.take (i + 1))).length = L + 2 from by rw [TK.out]; simp [hef, het]]; go_num, by go_num, by first | exact HBQ.out | exact HBQ.out.drew⟩
                                case measure => simp [intOf]; omega
                            · rw [hef] at e0
                              have t1 : (et == (x : Int)) = false := by simpa using het
                              cases og <;> cases ig
                              · skip
                                go_wp2
                                go_roundw
                                case rel => exact ⟨i + 1, by omega, by rw [show (msgsG j s x).length + (sayV j.kind s.phase x ⟨pa, pl⟩ (j.es.take (i + 1))).length = L + 0 from by rw [TK.out]; simp [hef, het]]; go_num, by go_num, by first | exact HBQ.out | exact HBQ.out.drew⟩
                                case measure => simp [intOf]; omega
                              · skip
                                go_wp2
                                go_roundw
                                case rel => exact ⟨i + 1, by omega, by rw [show (msgsG j s x).length + (sayV j.kind s.phase x ⟨pa, pl⟩ (j.es.take (i + 1))).length = L + 0 from by rw [TK.out]; simp [hef, het]]; go_num, by go_num, by first | exact HBQ.out | exact HBQ.out.drew⟩
                                case measure => simp [intOf]; omega
                              · skip
                                go_wp2
                                go_roundw
                                case rel => exact ⟨i + 1, by omega, by rw [show (msgsG j s x).length + (sayV j.kind s.phase x ⟨pa, pl⟩ (j.es.take (i + 1))).length = L + 1 from by rw [TK.out]; simp [hef, het]]; go_num, by go_num, by first | exact HBQ.out | exact HBQ.out.drew⟩
                                case measure => simp [intOf]; omega
                              · skip
                                go_wp2
                                go_roundw
                                case rel => exact ⟨i + 1, by omega, by rw [show (msgsG j s x).length + (sayV j.kind s.phase x ⟨pa, pl⟩ (j.es.take (i + 1))).length = L + 1 from by rw [TK.out]; simp [hef, het]]; go_num, by go_num, by first | exact HBQ.out | exact HBQ.out.drew⟩
                                case measure => simp [intOf]; omega
                          · have t0 : (ef == (x : Int)) = false := by simpa using hef
                            by_cases het : et = (x : Int)
                            · rw [het] at e1
                              cases og <;> cases ig
                              · skip
                                go_wp2
                                go_roundw
                                case rel => exact ⟨i + 1, by omega, by rw [show (msgsG j s x).length + (sayV j.kind s.phase x ⟨pa, pl⟩ (j.es.take (i + 1))).length = L + 0 from by rw [TK.out]; simp [hef, het]]; go_num, by go_num, by first | exact HBQ.out | exact HBQ.out.drew⟩
                                case measure => simp [intOf]; omega
                              · skip
                                go_wp2
                                go_roundw
                                case rel => exact ⟨i + 1, by omega, by rw [show (msgsG j s x).length + (sayV j.kind s.phase x ⟨pa, pl⟩ (j.es.take (i + 1))).length = L + 1 from by rw [TK.out]; simp [hef, het]]; go_num, by go_num, by first | exact HBQ.out | exact HBQ.out.drew⟩
                                case measure => simp [intOf]; omega
                              · skip
                                go_wp2
                                go_roundw
                                case rel => exact ⟨i + 1, by omega, by rw [show (msgsG j s x).length + (sayV j.kind s.phase x ⟨pa, pl⟩ (j.es.take (i + 1))).length = L + 0 from by rw [TK.out]; simp [hef, het]]; go_num, by go_num, by first | exact HBQ.out | exact HBQ.out.drew⟩
                                case measure => simp [intOf]; omega
                              · skip
                                go_wp2
                                go_roundw
                                case rel => exact ⟨i + 1, by omega, by rw [show (msgsG j s x).length + (sayV j.kind s.phase x ⟨pa, pl⟩ (j.es.take (i + 1))).length = L + 1 from by rw [TK.out]; simp [hef, het]]; go_num, by go_num, by first | exact HBQ.out | exact HBQ.out.drew⟩
                                case measure => simp [intOf]; omega
                            · have t1 : (et == (x : Int)) = false := by simpa using het
                              cases og <;> cases ig
                              · skip
                                go_wp2
                                go_roundw
                                case rel => exact ⟨i + 1, by omega, by rw [show (msgsG j s x).length + (sayV j.kind s.phase x ⟨pa, pl⟩ (j.es.take (i + 1))).length = L + 0 from by rw [TK.out]; simp [hef, het]]; go_num, by go_num, by first | exact HBQ.out | exact HBQ.out.drew⟩
                                case measure => simp [intOf]; omega
                              · skip
                                go_wp2
                                go_roundw
                                case rel => exact ⟨i + 1, by omega, by rw [show (msgsG j s x).length + (sayV j.kind s.phase x ⟨pa, pl⟩ (j.es.take (i + 1))).length = L + 0 from by rw [TK.out]; simp [hef, het]]; go_num, by go_num, by first | exact HBQ.out | exact HBQ.out.drew⟩
                                case measure => simp [intOf]; omega
                              · skip
                                go_wp2
                                go_roundw
                                case rel => exact ⟨i + 1, by omega, by rw [show (msgsG j s x).length + (sayV j.kind s.phase x ⟨pa, pl⟩ (j.es.take (i + 1))).length = L + 0 from by rw [TK.out]; simp [hef, het]]; go_num, by go_num, by first | exact HBQ.out | exact HBQ.out.drew⟩
                                case measure => simp [intOf]; omega
                              · skip
                                go_wp2
                                go_roundw
                                case rel => exact ⟨i + 1, by omega, by rw [show (msgsG j s x).length + (sayV j.kind s.phase x ⟨pa, pl⟩ (j.es.take (i + 1))).length = L + 0 from by rw [TK.out]; simp [hef, het]]; go_num, by go_num, by first | exact HBQ.out | exact HBQ.out.drew⟩
                                case measure => simp [intOf]; omega
                        · obtain rfl : i = j.es.length := by omega
                          rw [List.take_length]
                          have tt : decide (j.es.length < j.es.length) = false := by simp
                          have HB12 := Lib.hid (HB11.out.trans (hbq.mono HB11.out.size))
                          have MV0 : Hid ((msgV j s x).length = (sayV j.kind s.phase x ⟨pa, pl⟩ j.es).length) := by unfold Hid; rw [MV.out]; rfl
                          clear hbq ML MX
                          go_wp2
                          go_roundw
                          case rel => exact ⟨x + 1, by omega, by rw [MS.out, MV0.out], by go_num, HB12.out⟩
                          case measure => simp [intOf]; omega
                  · skip
                    rw [hfr] at b2 WK
                    clear hfr
                    have MSH : MailS J w3.heap.size j s false (.slice (some ⟨ov, vA, none⟩) s.vals.length cv) (.slice (some ⟨om, mA, none⟩) us.length cm) ⟨ov, vA + x * 2, none⟩ ⟨om, mA + x, none⟩ (.slice AU l.length cu) ya yl wr := ⟨J8.out.cell 2, J8.out.cell 3, b1, b2, b4, b5, y0, y1, uc⟩
                    have HMS := Lib.hid MSH
                    go_wp2_with fail
                    refine wp_region_zs (MailS J w3.heap.size j s false (.slice (some ⟨ov, vA, none⟩) s.vals.length cv) (.slice (some ⟨om, mA, none⟩) us.length cm) ⟨ov, vA + x * 2, none⟩ ⟨om, mA + x, none⟩ (.slice AU l.length cu) ya yl) [] (by kernel_rfl) ?_
                    refine wpZ_batch (is := [0, 1, 2, 3, 4, 5, 6, 7, 8, 9, 10, 11, 12, 13, 14, 15, 16, 17, 18]) (by kernel_rfl) (MSH.old (Below.refl _ _).drew) (a1 := ?_) ?_ ?_
                    rotate_left
                    · repeat
                        (refine SeqY.run (v := ?_) rfl (by rfl) ?_ ?_
                         rotate_left
                         · (intro W hS; cases hS; go_simp; (try with_reducible rfl)))
                      exact SeqY.nil
                    have B0 := (Below.refl wr.heap.size wr)
                    refine wpZ_call (i := 19) (k := 24) (is := [20, 21, 22, 23]) (v1 := .tuple #[.agg #[.int .i64 pa, .int .i64 pl], .bool ps, .int .i64 0]) (a1 := ?_) (WakeK wr) (by kernel_rfl) rfl rfl rfl rfl ?_ ?_ ?_ ?_
                    rotate_left
                    · unfold Gives
                      go_simp
                      refine (WK.out _ (Below.refl _ _).drew).mono ?_
                      rintro e w9 ⟨rfl, hb⟩
                      have hb9 : Below wr.heap.size wr w9 := (Below.refl _ _).drew.trans hb
                      exact ⟨_, rfl, rfl, HMS.out.old hb9, HMS.out.old (hb9.alloc hb9.size _), _, rfl, Bk.new _ _ _, hb9.alloc hb9.size _, hb9.size⟩
                    · unfold Gives
                      go_simp
                      have hbA : Below wr.heap.size wr (wr.alloc (.cells #[.int .i64 0, .int .i64 0] 40)).drew := ((Below.refl _ _).alloc (Nat.le_refl _) _).drew
                      refine ⟨HMS.out.old hbA, ?_⟩
                      refine (WK.out _ hbA).mono ?_
                      rintro e w9 ⟨rfl, hb⟩
                      have hb9 : Below wr.heap.size wr w9 := hbA.trans (hb.mono hbA.size)
                      exact ⟨_, rfl, rfl, HMS.out.old hb9, _, rfl, ((Bk.new wr 40 #[.int .i64 0, .int .i64 0]).drew).old hb, hb9, Nat.le_refl _⟩
                    · repeat
                        (refine SeqY.run (v := ?_) rfl (by rfl) ?_ ?_
                         rotate_left
                         · (intro W hS; cases hS; go_simp; (try with_reducible rfl)))
                      exact SeqY.nil
                    intro v2 w9 hS9 hK9
                    obtain ⟨p, rfl, hP9, hb9, hpge⟩ := hK9
                    have p0 := hP9.cell 0
                    have p1 := hP9.cell 1
                    have pf0 := hP9.froz 0
                    have pf1 := hP9.froz 1
                    simp only [List.getElem?_toArray] at p0 p1
                    clear hP9 hS9
                    refine wpZ_one (i := 25) (by kernel_rfl) rfl (fun K hK => ?_)
                    go_simp
                    have hb10 := (hb9.setCell (p := ⟨p, 0, none⟩) hpge (.int .i64 pa)).setCell (p := ⟨p, 1, none⟩) hpge (.int .i64 pl)
                    refine hK.out _ _ (HMS.out.old hb10) (fun hS11 => ?_)
                    clear hK K p0 p1 pf0 pf1 hb9 B0
                    have HB10 := Lib.hid hb10; clear hb10
                    refine wpZ_batch (is := [26, 27]) (by kernel_rfl) hS11 (a1 := ?_) ?_ ?_
                    rotate_left
                    · repeat
                        (refine SeqY.run (v := ?_) rfl (by rfl) ?_ ?_
                         rotate_left
                         · (intro W hS; cases hS; go_simp; (try with_reducible rfl)))
                      exact SeqY.nil
                    clear hS11
                    refine wpZ_done (by kernel_rfl) ?_
                    generalize ((w9.setCell ⟨p, 0, none⟩ (.int .i64 pa)).setCell ⟨p, 1, none⟩ (.int .i64 pl)) = w10 at *
                    have WYE := Lib.hid (WY.out w10)
                    have HM10 := HMS.out.old HB10.out
                    have k0 : w10.cell? ⟨J, 2, none⟩ = some (.int .i64 j.kind) := HM10.c0
                    have k1 : w10.cell? ⟨w3.heap.size, 1, none⟩ = some (.int .i64 s.phase) := HM10.c2
                    clear HM10 b0 b1 b2 b3 b4 b5 n0' y0 y1 uc
                    go_wp2_with fail
                    refine WYE.out.mono ?_
                    rintro e w11 ⟨rfl, hb11⟩
                    have T11 := Lib.hid (T8.out.trans ((HB10.out.trans (hb11.mono HB10.out.size)).mono T8.out.size))
                    have HB11 := Lib.hid (hbx.trans ((HB10.out.trans (hb11.mono HB10.out.size)).mono hbx.size))
                    clear hb11 k0 k1
                    obtain ⟨og, hog⟩ : ∃ og, outG j.kind s.phase = og := ⟨_, rfl⟩
                    obtain ⟨ig, hig⟩ : ∃ ig, inG j.kind s.phase = ig := ⟨_, rfl⟩
                    rw [hog, hig]
                    have HOG := Lib.hid hog; have HIG := Lib.hid hig
                    clear hog hig
                    have J11 := HJ.out.old T11.out
                    have j1 : w11.cell? ⟨J, 1, none⟩ = some (.slice A0 j.es.length c0) := J11.cell 1
                    have SL11 := Lib.hid (HSL.out.old T11.out)
                    have HJ11 := Lib.hid J11
                    have hl10 := (checkG_zero GJ.out.g).2.2.1
                    have hx200 := GJ.out.top
                    have ML := msgs_len j s x
                    have MX : x * (2 * j.es.length) ≤ 200 * 1200 := Nat.mul_le_mul (by have := HNN.out; omega) (by omega)
                    clear J11
                    go_wp2_with fail
                    cases ps
                    · go_loopw [19, 27] (fun m i wr => m = .int .i64 ((msgsG j s x).length : Nat) ∧ i = .int .i64 0 ∧ Below w11.heap.size w11 wr) (fun _ _ _ => 0)
                      case atStart => exact ⟨rfl, rfl, Below.refl _ _⟩
                      case round =>
                        obtain ⟨rfl, rfl, hbq⟩ := hrel
                        have j1' : wr.cell? ⟨J, 1, none⟩ = some (.slice A0 j.es.length c0) := (HJ11.out.old hbq).cell 1
                        have HB12 := Lib.hid (HB11.out.trans (hbq.mono HB11.out.size))
                        have MV0 : Hid ((msgV j s x).length = 0) := by unfold Hid; rw [MV.out]; rfl
                        clear j1 hbq ML MX
                        rcases Nat.eq_zero_or_pos j.es.length with hz | hz
                        · have tz : decide (0 < j.es.length) = false := decide_eq_false (by omega)
                          have tz2 : decide ((0 : Int) < (j.es.length : Int)) = false := decide_eq_false (by omega)
                          go_wp2
                          go_roundw
                          case rel => exact ⟨x + 1, by omega, by rw [MS.out, MV0.out, Nat.add_zero], by go_num, HB12.out⟩
                          case measure => simp [intOf]; omega
                        · have tz : decide (0 < j.es.length) = true := decide_eq_true (by omega)
                          have tz2 : decide ((0 : Int) < (j.es.length : Int)) = true := decide_eq_true (by omega)
                          go_wp2
                          go_roundw
                          case rel => exact ⟨x + 1, by omega, by rw [MS.out, MV0.out, Nat.add_zero], by go_num, HB12.out⟩
                          case measure => simp [intOf]; omega
                    · go_loopw [19, 27] (fun m i wr => ∃ i' : Nat, i' ≤ j.es.length ∧ m = .int .i64 (((msgsG j s x).length + (sayV j.kind s.phase x ⟨pa, pl⟩ (j.es.take i')).length : Nat) : Int) ∧ i = .int .i64 i' ∧ Below w11.heap.size w11 wr) (fun _ i _ => j.es.length - (intOf i).toNat)
                      case atStart => exact ⟨0, by omega, by simp [sayV], rfl, Below.refl _ _⟩
                      case round =>
                        obtain ⟨i, hi, rfl, rfl, hbq⟩ := hrel
                        have j1' : wr.cell? ⟨J, 1, none⟩ = some (.slice A0 j.es.length c0) := (HJ11.out.old hbq).cell 1
                        clear j1
                        by_cases hlt : i < j.es.length
                        · obtain ⟨oe, eA, ce, ee, hce1, hce2, hbe, hcelle⟩ := (SL11.out.old hbq).at_ (k := i) hlt
                          injection ee with g1 g2 g3
                          subst g1
                          obtain ⟨⟨ef, et, eg⟩, hee⟩ : ∃ e, j.es[i]? = some e := ⟨_, List.getElem?_eq_getElem hlt⟩
                          have e0 : wr.cell? ⟨oe, eA + i * 3, none⟩ = some (.int .i64 ef) := by simpa using hcelle i _ hee 0 _ rfl
                          have e1 : wr.cell? ⟨oe, eA + i * 3 + 1, none⟩ = some (.int .i64 et) := by simpa using hcelle i _ hee 1 _ rfl
                          have TL := sayV_take_len j.kind s.phase x ⟨pa, pl⟩ j.es i _ hee
                          rw [HOG.out, HIG.out] at TL
                          simp only at TL
                          have SLB := sayV_len j.kind s.phase x ⟨pa, pl⟩ j.es i
                          obtain ⟨L, hL⟩ : ∃ L, (msgsG j s x).length + (sayV j.kind s.phase x ⟨pa, pl⟩ (j.es.take i)).length = L := ⟨_, rfl⟩
                          rw [hL]
                          have hLb : L ≤ 300000 := by omega
                          have TK : Hid ((msgsG j s x).length + (sayV j.kind s.phase x ⟨pa, pl⟩ (j.es.take (i + 1))).length = L + (if og = true ∧ ef = (x : Int) then 1 else 0) + (if ig = true ∧ et = (x : Int) then 1 else 0)) := by
                            unfold Hid; rw [TL, ← hL]; omega
                          have HBQ := Lib.hid hbq
                          clear hbq hee hcelle TL SLB hL g2 ML MX
                          subst g3
                          have tt : decide (i < j.es.length) = true := by simp; omega
                          by_cases hef : ef = (x : Int)
                          · by_cases het : et = (x : Int)
                            · rw [hef] at e0
                              rw [het] at e1
                              cases og <;> cases ig
                              · skip
                                go_wp2
                                go_roundw
                                case rel => exact ⟨i + 1, by omega, by rw [show (msgsG j s x).length + (sayV j.kind s.phase x ⟨pa, pl⟩ (j.es.take (i + 1))).length = L + 0 from by rw [TK.out]; simp [hef, het]]; go_num, by go_num, by first | exact HBQ.out | exact HBQ.out.drew⟩
                                case measure => simp [intOf]; omega
                              · skip
                                go_wp2
                                go_roundw
                                case rel => exact ⟨i + 1, by omega, by rw [show (msgsG j s x).length + (sayV j.kind s.phase x ⟨pa, pl⟩ (j.es.take (i + 1))).length = L + 1 from by rw [TK.out]; simp [hef, het]]; go_num, by go_num, by first | exact HBQ.out | exact HBQ.out.drew⟩
                                case measure => simp [intOf]; omega
                              · skip
                                go_wp2
                                go_roundw
                                case rel => exact ⟨i + 1, by omega, by rw [show (msgsG j s x).length + (sayV j.kind s.phase x ⟨pa, pl⟩ (j.es.take (i + 1))).length = L + 1 from by rw [TK.out]; simp [hef, het]]; go_num, by go_num, by first | exact HBQ.out | exact HBQ.out.drew⟩
                                case measure => simp [intOf]; omega
                              · skip
                                go_wp2
                                go_roundw
                                case rel => exact ⟨i + 1, by omega, by rw [show (msgsG j s x).length + (sayV j.kind s.phase x ⟨pa, pl⟩ (j.es.take (i + 1))).length = L + 2 from by rw [TK.out]; simp [hef, het]]; go_num, by go_num, by first | exact HBQ.out | exact HBQ.out.drew⟩
                                case measure => simp [intOf]; omega
                            · rw [hef] at e0
                              have t1 : (et == (x : Int)) = false := by simpa using het
                              cases og <;> cases ig
                              · skip
                                go_wp2
                                go_roundw
                                case rel => exact ⟨i + 1, by omega, by rw [show (msgsG j s x).length + (sayV j.kind s.phase x ⟨pa, pl⟩ (j.es.take (i + 1))).length = L + 0 from by rw [TK.out]; simp [hef, het]]; go_num, by go_num, by first | exact HBQ.out | exact HBQ.out.drew⟩
                                case measure => simp [intOf]; omega
                              · skip
                                go_wp2
                                go_roundw
                                case rel => exact ⟨i + 1, by omega, by rw [show (msgsG j s x).length + (sayV j.kind s.phase x ⟨pa, pl⟩ (j.es.take (i + 1))).length = L + 0 from by rw [TK.out]; simp [hef, het]]; go_num, by go_num, by first | exact HBQ.out | exact HBQ.out.drew⟩
                                case measure => simp [intOf]; omega
                              · skip
                                go_wp2
                                go_roundw
                                case rel => exact ⟨i + 1, by omega, by rw [show (msgsG j s x).length + (sayV j.kind s.phase x ⟨pa, pl⟩ (j.es.take (i + 1))).length = L + 1 from by rw [TK.out]; simp [hef, het]]; go_num, by go_num, by first | exact HBQ.out | exact HBQ.out.drew⟩
                                case measure => simp [intOf]; omega
                              · skip
                                go_wp2
                                go_roundw
                                case rel => exact ⟨i + 1, by omega, by rw [show (msgsG j s x).length + (sayV j.kind s.phase x ⟨pa, pl⟩ (j.es.take (i + 1))).length = L + 1 from by rw [TK.out]; simp [hef, het]]; go_num, by go_num, by first | exact HBQ.out | exact HBQ.out.drew⟩
                                case measure => simp [intOf]; omega
                          · have t0 : (ef == (x : Int)) = false := by simpa using hef
                            by_cases het : et = (x : Int)
                            · rw [het] at e1
                              cases og <;> cases ig
                              · skip
                                go_wp2
                                go_roundw
                                case rel => exact ⟨i + 1, by omega, by rw [show (msgsG j s x).length + (sayV j.kind s.phase x ⟨pa, pl⟩ (j.es.take (i + 1))).length = L + 0 from by rw [TK.out]; simp [hef, het]]; go_num, by go_num, by first | exact HBQ.out | exact HBQ.out.drew⟩
                                case measure => simp [intOf]; omega
                              · skip
                                go_wp2
                                go_roundw
                                case rel => exact ⟨i + 1, by omega, by rw [show (msgsG j s x).length + (sayV j.kind s.phase x ⟨pa, pl⟩ (j.es.take (i + 1))).length = L + 1 from by rw [TK.out]; simp [hef, het]]; go_num, by go_num, by first | exact HBQ.out | exact HBQ.out.drew⟩
                                case measure => simp [intOf]; omega
                              · skip
                                go_wp2
                                go_roundw
                                case rel => exact ⟨i + 1, by omega, by rw [show (msgsG j s x).length + (sayV j.kind s.phase x ⟨pa, pl⟩ (j.es.take (i + 1))).length = L + 0 from by rw [TK.out]; simp [hef, het]]; go_num, by go_num, by first | exact HBQ.out | exact HBQ.out.drew⟩
                                case measure => simp [intOf]; omega
                              · skip
                                go_wp2
                                go_roundw
                                case rel => exact ⟨i + 1, by omega, by rw [show (msgsG j s x).length + (sayV j.kind s.phase x ⟨pa, pl⟩ (j.es.take (i + 1))).length = L + 1 from by rw [TK.out]; simp [hef, het]]; go_num, by go_num, by first | exact HBQ.out | exact HBQ.out.drew⟩
                                case measure => simp [intOf]; omega
                            · have t1 : (et == (x : Int)) = false := by simpa using het
                              cases og <;> cases ig
                              · skip
                                go_wp2
                                go_roundw
                                case rel => exact ⟨i + 1, by omega, by rw [show (msgsG j s x).length + (sayV j.kind s.phase x ⟨pa, pl⟩ (j.es.take (i + 1))).length = L + 0 from by rw [TK.out]; simp [hef, het]]; go_num, by go_num, by first | exact HBQ.out | exact HBQ.out.drew⟩
                                case measure => simp [intOf]; omega
                              · skip
                                go_wp2
                                go_roundw
                                case rel => exact ⟨i + 1, by omega, by rw [show (msgsG j s x).length + (sayV j.kind s.phase x ⟨pa, pl⟩ (j.es.take (i + 1))).length = L + 0 from by rw [TK.out]; simp [hef, het]]; go_num, by go_num, by first | exact HBQ.out | exact HBQ.out.drew⟩
                                case measure => simp [intOf]; omega
                              · skip
                                go_wp2
                                go_roundw
                                case rel => exact ⟨i + 1, by omega, by rw [show (msgsG j s x).length + (sayV j.kind s.phase x ⟨pa, pl⟩ (j.es.take (i + 1))).length = L + 0 from by rw [TK.out]; simp [hef, het]]; go_num, by go_num, by first | exact HBQ.out | exact HBQ.out.drew⟩
                                case measure => simp [intOf]; omega
                              · skip
                                go_wp2
                                go_roundw
                                case rel => exact ⟨i + 1, by omega, by rw [show (msgsG j s x).length + (sayV j.kind s.phase x ⟨pa, pl⟩ (j.es.take (i + 1))).length = L + 0 from by rw [TK.out]; simp [hef, het]]; go_num, by go_num, by first | exact HBQ.out | exact HBQ.out.drew⟩
                                case measure => simp [intOf]; omega
                        · obtain rfl : i = j.es.length := by omega
                          rw [List.take_length]
                          have tt : decide (j.es.length < j.es.length) = false := by simp
                          have HB12 := Lib.hid (HB11.out.trans (hbq.mono HB11.out.size))
                          have MV0 : Hid ((msgV j s x).length = (sayV j.kind s.phase x ⟨pa, pl⟩ j.es).length) := by unfold Hid; rw [MV.out]; rfl
                          clear hbq ML MX
                          go_wp2
                          go_roundw
                          case rel => exact ⟨x + 1, by omega, by rw [MS.out, MV0.out], by go_num, HB12.out⟩
                          case measure => simp [intOf]; omega
              · rw [hd] at b3
                have e1 : (if true = true then 0 else (msgsG j s x).length) = total N.mail := by rw [MN2.out, hd]; rfl
                rw [e1]
                have tt : ((total N.mail : Int) == (total N.mail : Int)) = true := by simp
                have HB9 := Lib.hid (HB4.out.trans (T8.out.mono HB4.out.size))
                by_cases hz : total N.mail = 0
                · have tz : ((total N.mail : Int) == 0) = true := by rw [hz]; rfl
                  clear e1
                  go_wp2_with fail
                  go_ret
                  exact ⟨rfl, HB9.out⟩
                · have tz : ((total N.mail : Int) == 0) = false := by
                    rw [beq_eq_false_iff_ne]; omega
                  obtain ⟨hf0, hd0⟩ : N.fresh = false ∧ N.done = false := by
                    rcases GN2.out.none_ with h | h
                    · exact absurd h hz
                    · exact h
                  have a2 : wr.cell? ⟨A, 2, none⟩ = some (.bool false) := by rw [← hf0]; exact X8.out.cell 2
                  have a3 : wr.cell? ⟨A, 3, none⟩ = some (.bool false) := by rw [← hd0]; exact X8.out.cell 3
                  clear e1
                  go_wp2_with fail
                  go_ret
                  exact ⟨rfl, HB9.out⟩
            · obtain rfl : x = nn := by omega
              have tx : decide ((x : Int) < (x : Int)) = false := by simp
              have e1 : (if s.done = true then 0 else (msgsG j s x).length) = total N.mail := by
                rw [MN2.out, HNN.out, Int.toNat_natCast]
              rw [e1]
              have tt : ((total N.mail : Int) == (total N.mail : Int)) = true := by simp
              have HB9 := Lib.hid (HB4.out.trans (T8.out.mono HB4.out.size))
              by_cases hz : total N.mail = 0
              · have tz : ((total N.mail : Int) == 0) = true := by rw [hz]; rfl
                clear e1
                go_wp2_with fail
                go_ret
                exact ⟨rfl, HB9.out⟩
              · have tz : ((total N.mail : Int) == 0) = false := by
                  rw [beq_eq_false_iff_ne]; omega
                obtain ⟨hf0, hd0⟩ : N.fresh = false ∧ N.done = false := by
                  rcases GN2.out.none_ with h | h
                  · exact absurd h hz
                  · exact h
                have a2 : wr.cell? ⟨A, 2, none⟩ = some (.bool false) := by rw [← hf0]; exact X8.out.cell 2
                have a3 : wr.cell? ⟨A, 3, none⟩ = some (.bool false) := by rw [← hd0]; exact X8.out.cell 3
                clear e1
                go_wp2_with fail
                go_ret
                exact ⟨rfl, HB9.out⟩
end Go.Proofs.Ytbholafggbdieaa
