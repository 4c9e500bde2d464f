/- rounds.Next of a state that is not done. -/
import Derived.Test.YtbholafggbdieaaNextWords
namespace Go.Proofs.Ytbholafggbdieaa
open Go.RowKit

set_option maxRecDepth 10000 in
set_option maxHeartbeats 2000000 in
theorem next_go (j : Jb) (hj : GoodJ j) (s : Stt) (hs : GoodS j s) (hd : s.done = false) (hst : s.step < 100000) (hsm : SmallJ j) (hsum : j.kind = 1 → ∀ v, v < j.n.toNat → ∀ e ∈ j.es, (wokeG j s v).1.a + e.g ≤ 4398046511104) (ev vv mv : Value) (w : World) (he : Sl 3 encE w w.heap.size ev j.es) (hr : StR w s vv mv) :
    Calls Try.prog 12 #[.agg #[.int .i64 j.n, ev, .int .i64 j.kind, .int .i64 j.src], .agg #[.int .i64 s.step, .int .i64 s.phase, .bool s.fresh, .bool s.done, vv, mv]] w (StepR (nextG j s) w) := by
  have CK := Lib.hid (fun W (hb : Below w.heap.size w W) => rcheck_any j hj ev W (he.old hb))
  have MY := Lib.hid (fun W (hb : Below w.heap.size w W) => may_any j s hj hs ev vv mv W (hr.old hb))
  have h0 := hj.n0; have h1 := hj.top; have h2 := hs.vlen; have h3 := hs.mlen
  have t0 := hs.step0
  obtain ⟨n, hn⟩ : ∃ n : Nat, j.n = (n : Int) := ⟨j.n.toNat, by omega⟩
  have hn' : j.n.toNat = n := by omega
  have hn1 : 1 ≤ n := by omega
  have hn2 : n ≤ 200 := by omega
  obtain ⟨b, o, c, rfl, hc1, hc2, hbl, hcell⟩ := hr.vals.at_ (k := 0) (by omega)
  obtain ⟨vs, hvs, hsl, hrows⟩ := hr.mail
  obtain ⟨b2, o2, c2, rfl, hd1, hd2, hbl2, hcell2⟩ := hsl.at_ (k := 0) (by omega)
  have lv : s.vals.length = n := by omega
  have lm : vs.length = n := by omega
  have CV := Lib.hid (fun W (hb : Below w.heap.size w W) => cloneV b o n c s.vals W lv (by omega) (fun j u hu => by
    have hj : j < (s.vals.flatMap encV).length := (List.getElem?_eq_some_iff.1 hu).1
    rw [flat_two] at hj
    obtain ⟨x, hx⟩ : ∃ x, s.vals[j / 2]? = some x := ⟨_, List.getElem?_eq_getElem (by omega)⟩
    have hm : j % 2 < (encV x).length := Nat.mod_lt _ (by decide)
    have h1 := flat_at (enc := encV) (sz := 2) (fun _ => rfl) s.vals (j / 2) x hx (j % 2) ((encV x)[j % 2]) (List.getElem?_eq_getElem hm) (Nat.mod_lt _ (by decide))
    rw [show j / 2 * 2 + j % 2 = j by omega, hu] at h1
    have h2 := hcell (j / 2) x hx (j % 2) ((encV x)[j % 2]) (List.getElem?_eq_getElem hm)
    rw [show o + j / 2 * 2 + j % 2 = o + j by omega] at h2
    rw [hb.cell (p := ⟨b, _, none⟩) hbl, h2]
    exact h1.symm))
  have GJ := Lib.hid hj; have GS := Lib.hid hs; have SM := Lib.hid hsm; have SU := Lib.hid hsum; have HE := Lib.hid he
  have HC := Lib.hid hcell; have HC2 := Lib.hid hcell2; have HROWS := Lib.hid hrows
  rw [lv] at hc1 MY ⊢
  rw [lm] at hd1 MY ⊢
  rw [hn] at CK MY ⊢
  rw [hd] at MY ⊢
  have LV := Lib.hid lv
  have LS := Lib.hid lm
  have HN := Lib.hid hn; have HN' := Lib.hid hn'; have HD := Lib.hid hd
  unfold maxLen at hc2 hd2
  clear hj hs hsm hsum he hr hcell hcell2 hrows hsl h0 h1 h2 h3 hvs lv lm hn hn' hd
  have hmk := fun W => run_make_row' (P := Try.prog) 30 38 (.slice none 0 0) 24 Try.underlying30 infoRow rfl .i64 .i64 n (by omega) (by omega) W
  have tst : (s.step == 100000) = false := by simp; omega
  generalize hvv : Value.slice (some ⟨b, o, none⟩) n c = bv at *
  generalize hmv : Value.slice (some ⟨b2, o2, none⟩) n c2 = bm at *
  have HVV := Lib.hid hvv; have HMV := Lib.hid hmv
  clear hvv hmv
  go_enter Try.func12, Try.ntmps12
  go_wp2_with fail
  refine (CK.out _ (((Below.of_alloc w _).alloc (by simp) _).alloc (by simp; omega) _)).mono ?_
  rintro e w1 ⟨rfl, hb1⟩
  have jb := (((Bk.new w 27 #[.int .i64 (n : Int), ev, .int .i64 j.kind, .int .i64 j.src]).alloc (.cells #[.int .i64 s.step, .int .i64 s.phase, .bool s.fresh, .bool false, bv, bm] 32)).alloc (.cells #[.int .i64 0, .int .i64 0, .bool false, .bool false, .slice none 0 0, .slice none 0 0] 32)).old hb1
  have sb := ((cellr w (.cells #[.int .i64 (n : Int), ev, .int .i64 j.kind, .int .i64 j.src] 27) #[.int .i64 s.step, .int .i64 s.phase, .bool s.fresh, .bool false, bv, bm] 32).alloc (.cells #[.int .i64 0, .int .i64 0, .bool false, .bool false, .slice none 0 0, .slice none 0 0] 32)).old hb1
  have rb := (cellr (w.alloc (.cells #[.int .i64 (n : Int), ev, .int .i64 j.kind, .int .i64 j.src] 27)) (.cells #[.int .i64 s.step, .int .i64 s.phase, .bool s.fresh, .bool false, bv, bm] 32) #[.int .i64 0, .int .i64 0, .bool false, .bool false, .slice none 0 0, .slice none 0 0] 32).old hb1
  simp only [World.size_alloc] at rb
  have HB := Lib.hid ((((Below.of_alloc w (.cells #[.int .i64 (n : Int), ev, .int .i64 j.kind, .int .i64 j.src] 27)).alloc (by simp) (.cells #[.int .i64 s.step, .int .i64 s.phase, .bool s.fresh, .bool false, bv, bm] 32)).alloc (by simp; omega) (.cells #[.int .i64 0, .int .i64 0, .bool false, .bool false, .slice none 0 0, .slice none 0 0] 32)).trans (hb1.mono (by simp; omega)))
  have j0 : w1.cell? ⟨w.heap.size, 0, none⟩ = some (.int .i64 (n : Int)) := jb.cell 0
  have j1 : w1.cell? ⟨w.heap.size, 1, none⟩ = some ev := jb.cell 1
  have j2 : w1.cell? ⟨w.heap.size, 2, none⟩ = some (.int .i64 j.kind) := jb.cell 2
  have j3 : w1.cell? ⟨w.heap.size, 3, none⟩ = some (.int .i64 j.src) := jb.cell 3
  have s0 : w1.cell? ⟨w.heap.size + 1, 0, none⟩ = some (.int .i64 s.step) := sb.cell 0
  have s1 : w1.cell? ⟨w.heap.size + 1, 1, none⟩ = some (.int .i64 s.phase) := sb.cell 1
  have s2 : w1.cell? ⟨w.heap.size + 1, 2, none⟩ = some (.bool s.fresh) := sb.cell 2
  have s3 : w1.cell? ⟨w.heap.size + 1, 3, none⟩ = some (.bool false) := sb.cell 3
  have s4 : w1.cell? ⟨w.heap.size + 1, 4, none⟩ = some bv := sb.cell 4
  have s5 : w1.cell? ⟨w.heap.size + 1, 5, none⟩ = some bm := sb.cell 5
  have JB := Lib.hid jb; have SB := Lib.hid sb; have RB := Lib.hid rb
  clear hb1 jb sb rb
  go_wp2_with fail
  refine (MY.out _ HB.out).mono ?_
  rintro e w2 ⟨rfl, hb2⟩
  have HB2 := Lib.hid (HB.out.trans (hb2.mono HB.out.size))
  have sb := SB.out.old hb2
  have u0 : w2.cell? ⟨w.heap.size + 1, 0, none⟩ = some (.int .i64 s.step) := sb.cell 0
  have u1 : w2.cell? ⟨w.heap.size + 1, 1, none⟩ = some (.int .i64 s.phase) := sb.cell 1
  have u3 : w2.cell? ⟨w.heap.size + 1, 3, none⟩ = some (.bool false) := sb.cell 3
  have u4 : w2.cell? ⟨w.heap.size + 1, 4, none⟩ = some bv := sb.cell 4
  have jb := JB.out.old hb2
  have i0 : w2.cell? ⟨w.heap.size, 0, none⟩ = some (.int .i64 (n : Int)) := jb.cell 0
  have i1 : w2.cell? ⟨w.heap.size, 1, none⟩ = some ev := jb.cell 1
  have i2 : w2.cell? ⟨w.heap.size, 2, none⟩ = some (.int .i64 j.kind) := jb.cell 2
  have i3 : w2.cell? ⟨w.heap.size, 3, none⟩ = some (.int .i64 j.src) := jb.cell 3
  have RB2 := Lib.hid (RB.out.old hb2)
  have JB2 := Lib.hid jb
  have SB2 := Lib.hid sb
  clear hb2 sb jb j0 j1 j2 j3 s0 s1 s2 s3 s4 s5 JB SB RB
  go_wp2_with fail
  have tb : decide ((n : Int) < 0) = false := by simp
  have wst : IntKind.i64.wrap (s.step + 1) = s.step + 1 := IntWalk.i64_in _ (by omega)
  have e3 : madeCells #[Value.slice none 0 0] n = Array.replicate n (Value.slice none 0 0) := by
    apply Array.ext'
    rw [toList_madeCells_one, Array.toList_replicate]
  rw [e3] at hmk
  clear e3
  have hB2 := HB2.out.size
  have hRB := RB2.out.lt
  refine wp_region_zs (fun w' => w'.cell? ⟨w.heap.size, 0, none⟩ = some (.int .i64 (n : Int)) ∧ w'.cell? ⟨w.heap.size, 1, none⟩ = some ev ∧ w'.cell? ⟨w.heap.size, 2, none⟩ = some (.int .i64 j.kind) ∧ w'.cell? ⟨w.heap.size, 3, none⟩ = some (.int .i64 j.src) ∧
    w'.cell? ⟨w.heap.size + 1, 0, none⟩ = some (.int .i64 s.step) ∧ w'.cell? ⟨w.heap.size + 1, 1, none⟩ = some (.int .i64 s.phase) ∧ w'.cell? ⟨w.heap.size + 1, 4, none⟩ = some bv) [] (by kernel_rfl) ?_
  refine wpZ_batch (is := [0, 1, 2, 3, 4, 5, 6, 7, 9, 10, 11]) (by kernel_rfl) ⟨i0, i1, i2, i3, u0, u1, u4⟩ (a1 := ?_) ?_ ?_
  rotate_left
  · repeat
      (refine SeqY.run (v := ?_) rfl (by rfl) ?_ ?_
       rotate_left
       · (intro W hS; (try dsimp only at hS); go_simp; (try with_reducible rfl)))
    exact SeqY.nil
  refine wpZ_both (i := 8) (k := 12) (NextK w.heap.size n s.vals w2) (by kernel_rfl) rfl rfl rfl rfl ?_ ?_ ?_
  · unfold Gives
    go_simp
    refine (CV.out _ (HB2.out.drew)).mono ?_
    rintro e w3 ⟨v', rfl, hown, _, hb⟩
    have hb3 : Below w2.heap.size w2 w3 := (Below.refl _ _).drew.trans hb
    have JB3 := JB2.out.old hb3
    have SB3 := SB2.out.old hb3
    have S3 := hb3.size
    have hv' : ∃ g c1, v' = .slice (some ⟨g, 0, none⟩) n c1 := by
      rcases hown.2 with ⟨_, h0⟩ | ⟨g, c1, _, rfl, _⟩
      · omega
      · exact ⟨_, _, rfl⟩
    obtain ⟨g, c1, rfl⟩ := hv'
    refine ⟨_, rfl, ⟨JB3.cell 0, JB3.cell 1, JB3.cell 2, JB3.cell 3, SB3.cell 0, SB3.cell 1, SB3.cell 4⟩, ?_⟩
    have JB4 := JB3.alloc (.cells (Array.replicate n (Value.slice none 0 0)) 38)
    have SB4 := SB3.alloc (.cells (Array.replicate n (Value.slice none 0 0)) 38)
    have OW4 := own_from (own_old hown (Below.of_alloc w3 (.cells (Array.replicate n (Value.slice none 0 0)) 38))) (W := w3.alloc (.cells (Array.replicate n (Value.slice none 0 0)) 38)) (Nat.le_refl _) (fun _ _ _ => rfl)
    have KK : NextK w.heap.size n s.vals w2 (.slice (some ⟨g, 0, none⟩) n c1) (.slice (some ⟨w3.heap.size, 0, none⟩) n n) (w3.alloc (.cells (Array.replicate n (Value.slice none 0 0)) 38)) :=
      ⟨g, c1, _, rfl, rfl, own_less OW4 (by show w.heap.size + 1 + 1 + 1 ≤ w2.heap.size; omega), Bk.new _ _ _, hb3.alloc hb3.size _, S3⟩
    have KH := Lib.hid KK
    clear KK OW4 hown hb
    exact ⟨⟨JB4.cell 0, JB4.cell 1, JB4.cell 2, JB4.cell 3, SB4.cell 0, SB4.cell 1, SB4.cell 4⟩, KH.out⟩
  · unfold Gives
    go_simp
    have hbA : Below w2.heap.size w2 (w2.alloc (.cells (Array.replicate n (Value.slice none 0 0)) 38)).drew := ((Below.refl _ _).alloc (Nat.le_refl _) _).drew
    have JB4 := JB2.out.old hbA
    have SB4 := SB2.out.old hbA
    refine ⟨⟨JB4.cell 0, JB4.cell 1, JB4.cell 2, JB4.cell 3, SB4.cell 0, SB4.cell 1, SB4.cell 4⟩, ?_⟩
    refine (CV.out _ (HB2.out.trans (hbA.mono hB2))).mono ?_
    rintro e w3 ⟨v', rfl, hown, _, hb⟩
    have hb3 : Below w2.heap.size w2 w3 := hbA.trans (hb.mono hbA.size)
    have JB3 := JB2.out.old hb3
    have SB3 := SB2.out.old hb3
    have M3 := (((Bk.new w2 38 (Array.replicate n (Value.slice none 0 0)))).drew).old hb
    have hv' : ∃ g c1, v' = .slice (some ⟨g, 0, none⟩) n c1 := by
      rcases hown.2 with ⟨_, h0⟩ | ⟨g, c1, _, rfl, _⟩
      · omega
      · exact ⟨_, _, rfl⟩
    obtain ⟨g, c1, rfl⟩ := hv'
    exact ⟨_, rfl, ⟨JB3.cell 0, JB3.cell 1, JB3.cell 2, JB3.cell 3, SB3.cell 0, SB3.cell 1, SB3.cell 4⟩, g, c1, _, rfl, rfl, own_less hown (by have := hbA.size; omega), M3, hb3, Nat.le_refl _⟩
  intro v1 v2 w3 hS3 hK3
  obtain ⟨g, c1, M, rfl, rfl, hown3, hM3, hb3, hMge⟩ := hK3
  have hB3 := hb3.size
  have JB3 := JB2.out.old hb3
  have SB3 := SB2.out.old hb3
  have RB3 := RB2.out.old hb3
  have hMlt := hM3.lt
  have NX0 : Hid (NxR w j s n ev w.heap.size bv bm w3.heap.size g M c1 0 0 (List.replicate n (.slice none 0 0)) (w3.alloc (.cells #[.int .i64 (n : Int), ev, .int .i64 j.kind, .int .i64 j.src, .int .i64 (s.step + 1), .int .i64 s.phase, .bool false, .bool false, .slice (some ⟨g, 0, none⟩) n c1, .slice (some ⟨M, 0, none⟩) n n, .int .i64 0] 64))) := by
    have hb4 := (HB2.out.trans (hb3.mono hB2)).alloc (by omega) (.cells #[.int .i64 (n : Int), ev, .int .i64 j.kind, .int .i64 j.src, .int .i64 (s.step + 1), .int .i64 s.phase, .bool false, .bool false, .slice (some ⟨g, 0, none⟩) n c1, .slice (some ⟨M, 0, none⟩) n n, .int .i64 0] 64)
    refine ⟨JB3.alloc _, SB3.alloc _, RB3.alloc _, Bk.new _ _ _, ?_, rows_begin _ (hM3.alloc _), hb4⟩
    have := own_old hown3 (Below.of_alloc w3 (.cells #[.int .i64 (n : Int), ev, .int .i64 j.kind, .int .i64 j.src, .int .i64 (s.step + 1), .int .i64 s.phase, .bool false, .bool false, .slice (some ⟨g, 0, none⟩) n c1, .slice (some ⟨M, 0, none⟩) n n, .int .i64 0] 64))
    simpa [valsK] using this
  have GR : Hid (g < w3.heap.size) := own_lt hown3 rfl
  clear hown3 hM3 JB3 SB3 RB3 RB2 JB2 SB2
  refine wpZ_batch (is := [13, 14]) (by kernel_rfl) hS3 (a1 := ?_) ?_ ?_
  rotate_left
  · repeat
      (refine SeqY.run (v := ?_) rfl (by rfl) ?_ ?_
       rotate_left
       · (intro W hS; (try dsimp only at hS); go_simp; (try with_reducible rfl)))
    exact SeqY.nil
  refine wpZ_one (i := 15) (by kernel_rfl) rfl (fun K hK => ?_)
  go_simp
  refine hK.out _ _ ⟨cell_later hS3.1, cell_later hS3.2.1, cell_later hS3.2.2.1, cell_later hS3.2.2.2.1, cell_later hS3.2.2.2.2.1, cell_later hS3.2.2.2.2.2.1, cell_later hS3.2.2.2.2.2.2⟩ (fun hS4 => ?_)
  clear hK K
  refine wpZ_batch (is := [16]) (by kernel_rfl) hS4 (a1 := ?_) ?_ ?_
  rotate_left
  · repeat
      (refine SeqY.run (v := ?_) rfl (by rfl) ?_ ?_
       rotate_left
       · (intro W hS; (try dsimp only at hS); go_simp; (try with_reducible rfl)))
    exact SeqY.nil
  refine wpZ_done (by kernel_rfl) ?_
  clear hS3 hS4 u0 u1 u3 u4 i0 i1 i2 i3 hmk
  generalize hw4 : World.alloc w3 _ = w4 at *
  clear hw4 wst
  have n4 : w4.cell? ⟨w.heap.size + 1, 4, none⟩ = some bv := NX0.out.st.cell 4
  rw [← HVV.out] at n4
  go_wp2_with fail
  clear n4
  have sz3 : w.heap.size + 1 + 1 < w3.heap.size := by omega
  go_loopw [54] (fun i wr => ∃ (k : Nat) (us : List Value), k ≤ n ∧ i = .int .i64 k ∧ NxR w j s n ev w.heap.size bv bm w3.heap.size g M c1 k k us wr) (fun i _ => n - (intOf i).toNat)
  case atStart => exact ⟨0, _, Nat.zero_le _, rfl, NX0.out⟩
  case round =>
    obtain ⟨k, us, hk, rfl, hN⟩ := hrel
    have hRlt := hN.rnd.lt
    by_cases hlt : k < n
    · obtain ⟨x, hx⟩ : ∃ x, s.vals[k]? = some x := ⟨_, List.getElem?_eq_getElem (by rw [LV.out]; exact hlt)⟩
      obtain ⟨u, hu⟩ : ∃ u, vs[k]? = some u := ⟨_, List.getElem?_eq_getElem (by rw [LS.out]; exact hlt)⟩
      obtain ⟨l, hl⟩ : ∃ l, s.mail[k]? = some l := ⟨_, List.getElem?_eq_getElem (by have h1 := GS.out.mlen; have h2 := HN.out; omega)⟩
      have x0 : wr.cell? ⟨b, o + k * 2, none⟩ = some (.int .i64 x.a) := (hN.below.cell (p := ⟨b, _, none⟩) hbl).trans (HC.out k x hx 0 _ rfl)
      have x1 : wr.cell? ⟨b, o + k * 2 + 1, none⟩ = some (.int .i64 x.l) := (hN.below.cell (p := ⟨b, _, none⟩) hbl).trans (HC.out k x hx 1 _ rfl)
      have uc : wr.cell? ⟨b2, o2 + k, none⟩ = some u := (hN.below.cell (p := ⟨b2, _, none⟩) hbl2).trans (by have := HC2.out k u hu 0 _ rfl; simpa using this)
      have ub := World.block_lt_of_cell? wr _ uc
      have SLu : Hid (Sl 1 encN w w.heap.size u l) := HROWS.out k u l hu hl
      obtain ⟨A6, c6, rfl⟩ := SLu.out.shape
      have W2 := Lib.hid (wokeG_at (j := j) hx hl)
      have HX := Lib.hid hx; have HL := Lib.hid hl
      clear hx hu hl
      obtain ⟨xa, xl⟩ := x
      simp only at x0 x1
      have st0 : wr.cell? ⟨w.heap.size + 1, 2, none⟩ = some (.bool s.fresh) := hN.st.cell 2
      have st5 : wr.cell? ⟨w.heap.size + 1, 5, none⟩ = some (.slice (some ⟨b2, o2, none⟩) n c2) := (hN.st.cell 5).trans (congrArg some HMV.out.symm)
      have slt := hN.st.lt
      have HNX := Lib.hid hN; clear hN
      by_cases hsk : s.fresh = false ∧ l = []
      · obtain ⟨h1, rfl⟩ := hsk
        have WS : Hid (wokeG j s k = (⟨xa, xl⟩, false)) := by unfold Hid; rw [W2.out, if_pos ⟨h1, rfl⟩]
        rw [h1] at st0
        have HF := Lib.hid h1; clear h1
        simp only [List.length_nil] at uc
        go_wp2
        go_roundw
        case rel => exact ⟨k + 1, us, by omega, by go_num, NxR.skip HNX.out (by rw [HN'.out]; exact hlt) (by rw [HN'.out]; exact LV.out) (by rw [WS.out, HX.out]; rfl) (by rw [WS.out]) (Below.of_alloc _ _)⟩
        case measure => simp [intOf]; omega
      · have WS : Hid (wokeG j s k = wakeG j.kind k j.src ⟨xa, xl⟩ s.phase s.fresh l) := by unfold Hid; rw [W2.out, if_neg hsk]
        have hcase : s.fresh = true ∨ (s.fresh = false ∧ (((l.length : Nat) : Int) == 0) = false) := by
          cases hf : s.fresh
          · right
            refine ⟨rfl, ?_⟩
            cases l with
            | nil => exact absurd ⟨hf, rfl⟩ hsk
            | cons a l => simp; omega
          · exact Or.inl rfl
        have WK := Lib.hid (fun W (hb : Below w.heap.size w W) => wake_in (w := W) GJ.out GS.out (k := k) (by rw [HN'.out]; exact hlt) (u := .slice A6 l.length c6) (by have h1 := SLu.out.old hb; have e := HL.out; rw [e]; exact h1))
        have EX : Hid (s.vals[k]?.getD ⟨-1, -1⟩ = ⟨xa, xl⟩ ∧ s.mail[k]?.getD [] = l) := ⟨by rw [HX.out]; rfl, by rw [HL.out]; rfl⟩
        rw [EX.out.1, EX.out.2] at WK
        simp only at WK
        rw [← WS.out] at WK
        clear hsk
        generalize hp : wokeG j s k = p at *
        have HP := Lib.hid hp; clear hp
        obtain ⟨⟨pa, pl⟩, ps⟩ := p
        simp only at WK
        rcases hcase with hfr | ⟨hfr, hlz⟩
        all_goals
          rw [hfr] at WK
          go_wp2_with fail
          have N8 := Lib.hid (HNX.out.old (Below.of_alloc wr (.cells #[.int .i64 xa, .int .i64 xl] 40)))
          have X8 := Bk.new wr 40 #[.int .i64 xa, .int .i64 xl]
          have z8 : (wr.alloc (.cells #[.int .i64 xa, .int .i64 xl] 40)).heap.size = wr.heap.size + 1 := by simp
          have uc8 := cell_later (o := .cells #[.int .i64 xa, .int .i64 xl] 40) uc
          have st58 := cell_later (o := .cells #[.int .i64 xa, .int .i64 xl] 40) st5
          have st08 := cell_later (o := .cells #[.int .i64 xa, .int .i64 xl] 40) st0
          generalize (wr.alloc (.cells #[.int .i64 xa, .int .i64 xl] 40)) = w8 at *
          have Z8 := Lib.hid z8; clear z8
          refine wp_region_zs (WakeS w.heap.size j s (.slice (some ⟨b2, o2, none⟩) n c2) ⟨b2, o2 + k, none⟩ (.slice A6 l.length c6) wr.heap.size xa xl) [] (by kernel_rfl) ?_
          refine wpZ_batch (is := [0, 1, 2, 3, 4, 5, 6, 7, 8, 9, 10, 11, 12, 13, 14]) (by kernel_rfl) ⟨N8.out.job.cell 2, N8.out.job.cell 3, N8.out.st.cell 1, st08, st58, uc8, X8.cell 0, X8.cell 1⟩ (a1 := ?_) ?_ ?_
          rotate_left
          · repeat
              (refine SeqY.run (v := ?_) rfl (by rfl) ?_ ?_
               rotate_left
               · (intro W hS; cases hS; go_simp; (try with_reducible rfl)))
            exact SeqY.nil
          have J8 := N8.out.job; have T8 := N8.out.st
          have B8 := N8.out.below
          have u8' := World.block_lt_of_cell? w8 _ uc8
          refine wpZ_call (i := 15) (k := 20) (is := [16, 17, 18, 19]) (v1 := .tuple #[.agg #[.int .i64 pa, .int .i64 pl], .bool ps, .int .i64 0]) (a1 := ?_) (WakeK w8) (by kernel_rfl) rfl rfl rfl rfl ?_ ?_ ?_ ?_
          rotate_left
          · unfold Gives
            go_simp
            refine (WK.out _ B8.drew).mono ?_
            rintro e w9 ⟨rfl, hb⟩
            have hb9 : Below w8.heap.size w8 w9 := (Below.refl _ _).drew.trans hb
            have J9 := J8.old hb9; have T9 := T8.old hb9; have X9 := X8.old hb9
            have uc9 := (hb9.cell (p := ⟨b2, o2 + k, none⟩) u8').trans uc8
            refine ⟨_, rfl, rfl, ⟨J9.cell 2, J9.cell 3, T9.cell 1, T9.cell 2, (T9.cell 5).trans (congrArg some HMV.out.symm), uc9, X9.cell 0, X9.cell 1⟩, ?_⟩
            have J10 := J9.alloc (.cells #[.int .i64 0, .int .i64 0] 40); have T10 := T9.alloc (.cells #[.int .i64 0, .int .i64 0] 40); have X10 := X9.alloc (.cells #[.int .i64 0, .int .i64 0] 40)
            exact ⟨⟨J10.cell 2, J10.cell 3, T10.cell 1, T10.cell 2, (T10.cell 5).trans (congrArg some HMV.out.symm), cell_later uc9, X10.cell 0, X10.cell 1⟩, _, rfl, Bk.new _ _ _, hb9.alloc hb9.size _, hb9.size⟩
          · unfold Gives
            go_simp
            have hbA : Below w8.heap.size w8 (w8.alloc (.cells #[.int .i64 0, .int .i64 0] 40)).drew := ((Below.refl _ _).alloc (Nat.le_refl _) _).drew
            have J9 := J8.old hbA; have T9 := T8.old hbA; have X9 := X8.old hbA
            have uc9 := (hbA.cell (p := ⟨b2, o2 + k, none⟩) u8').trans uc8
            refine ⟨⟨J9.cell 2, J9.cell 3, T9.cell 1, T9.cell 2, (T9.cell 5).trans (congrArg some HMV.out.symm), uc9, X9.cell 0, X9.cell 1⟩, ?_⟩
            refine (WK.out _ (B8.trans (hbA.mono B8.size))).mono ?_
            rintro e w9 ⟨rfl, hb⟩
            have hb9 : Below w8.heap.size w8 w9 := hbA.trans (hb.mono hbA.size)
            have J10 := J8.old hb9; have T10 := T8.old hb9; have X10 := X8.old hb9
            have uc10 := (hb9.cell (p := ⟨b2, o2 + k, none⟩) u8').trans uc8
            exact ⟨_, rfl, rfl, ⟨J10.cell 2, J10.cell 3, T10.cell 1, T10.cell 2, (T10.cell 5).trans (congrArg some HMV.out.symm), uc10, X10.cell 0, X10.cell 1⟩, _, rfl, ((Bk.new w8 40 #[.int .i64 0, .int .i64 0]).drew).old hb, hb9, Nat.le_refl _⟩
          · repeat
              (refine SeqY.run (v := ?_) rfl (by rfl) ?_ ?_
               rotate_left
               · (intro W hS; cases hS; go_simp; (try with_reducible rfl)))
            exact SeqY.nil
          intro v2 w9 hS9 hK9
          obtain ⟨p, rfl, hP9, hb9, hpge⟩ := hK9
          have L8 : w.heap.size + 1 < w8.heap.size ∧ wr.heap.size < w8.heap.size ∧ w3.heap.size < w8.heap.size := ⟨T8.lt, X8.lt, N8.out.rnd.lt⟩
          have hS10 := (hS9.far (p := ⟨p, 0, none⟩) (by show p ≠ _; omega) (by show p ≠ _; omega) (by show p ≠ b2; simp only at u8'; omega) (by show p ≠ _; omega) (.int .i64 pa)).far (p := ⟨p, 1, none⟩) (by show p ≠ _; omega) (by show p ≠ _; omega) (by show p ≠ b2; simp only at u8'; omega) (by show p ≠ _; omega) (.int .i64 pl)
          clear J8 T8 B8 u8' X8 uc8 st58 st08
          have p0 := hP9.cell 0
          have p1 := hP9.cell 1
          have pf0 := hP9.froz 0
          have pf1 := hP9.froz 1
          simp only [List.getElem?_toArray] at p0 p1
          have P9 := Lib.hid hP9
          clear hP9
          refine wpZ_one (i := 21) (by kernel_rfl) rfl (fun K hK => ?_)
          go_simp
          refine hK.out _ _ hS10 (fun hS11 => ?_)
          clear hK K hS9 hS10
          have N10 := Lib.hid (N8.out.old ((hb9.setCell (p := ⟨p, 0, none⟩) hpge (.int .i64 pa)).setCell (p := ⟨p, 1, none⟩) hpge (.int .i64 pl)))
          have P10 := (P9.out.set 0 (.int .i64 pa)).set 1 (.int .i64 pl)
          clear p0 p1 pf0 pf1 hb9 P9 N8
          refine wpZ_batch (is := [22, 23]) (by kernel_rfl) hS11 (a1 := ?_) ?_ ?_
          rotate_left
          · repeat
              (refine SeqY.run (v := ?_) rfl (by rfl) ?_ ?_
               rotate_left
               · (intro W hS; cases hS; go_simp; (try with_reducible rfl)))
            exact SeqY.nil
          clear hS11
          refine wpZ_done (by kernel_rfl) ?_
          generalize ((w9.setCell ⟨p, 0, none⟩ (.int .i64 pa)).setCell ⟨p, 1, none⟩ (.int .i64 pl)) = w10 at *
          go_wp2_with fail
          have q0 : w10.cell? ⟨p, 0, none⟩ = some (.int .i64 pa) := P10.cell 0
          have q1 : w10.cell? ⟨p, 1, none⟩ = some (.int .i64 pl) := P10.cell 1
          have r8 : w10.cell? ⟨w3.heap.size, 8, none⟩ = some (.slice (some ⟨g, 0, none⟩) n c1) := N10.out.rnd.cell 8
          have vlen : ((valsK j s k).flatMap encV).length = n * 2 := by rw [flat_two, valsK_len (by rw [HN'.out]; exact hk) (by rw [HN'.out]; exact LV.out), HN'.out]
          have y0 := N10.out.own.cellAt (k * 2) (by omega)
          have y1 := N10.out.own.cellAt (k * 2 + 1) (by omega)
          rw [List.getElem?_eq_getElem (by omega)] at y0 y1
          have yf0 := N10.out.own.frozenAt (k * 2)
          have yf1 := N10.out.own.frozenAt (k * 2 + 1)
          refine wp_region_zs (fun w' => w'.cell? ⟨p, 0, none⟩ = some (.int .i64 pa) ∧ w'.cell? ⟨p, 1, none⟩ = some (.int .i64 pl) ∧ w'.cell? ⟨w3.heap.size, 8, none⟩ = some (.slice (some ⟨g, 0, none⟩) n c1)) [8] (by kernel_rfl) ?_
          refine wpZ_batch (is := [0, 1, 2, 3, 4, 5, 6]) (by kernel_rfl) ⟨q0, q1, r8⟩ (a1 := ?_) ?_ ?_
          rotate_left
          · repeat
              (refine SeqY.run (v := ?_) rfl (by rfl) ?_ ?_
               rotate_left
               · (intro W hS; (try dsimp only at hS); go_simp; (try with_reducible rfl)))
            exact SeqY.nil
          refine wpZ_batch (is := [7]) (by kernel_rfl) ⟨q0, q1, r8⟩ (a1 := ?_) ?_ ?_
          rotate_left
          · repeat
              (refine SeqY.run (v := ?_) rfl (by rfl) ?_ ?_
               rotate_left
               · (intro W hS; (try dsimp only at hS); go_simp; (try with_reducible rfl)))
            exact SeqY.nil
          refine wpZ_end (i := 8) (by kernel_rfl) rfl (fun K hK => ?_)
          go_simp
          refine hK.out _ _ ?_
          clear hK K
          refine wpZ_done (by kernel_rfl) ?_
          have N11 := Lib.hid (N10.out.val (by rw [HN'.out]; exact hlt) HN'.out LV.out GR.out (Nat.le_refl _))
          have e11 : (wokeG j s k).1 = ⟨pa, pl⟩ := by rw [HP.out]
          rw [e11] at N11
          have neg : p ≠ g := by have := GR.out; omega
          have P11 := (P10.far (p := ⟨g, k * 2, none⟩) neg (.int .i64 pa)).far (p := ⟨g, k * 2 + 1, none⟩) neg (.int .i64 pl)
          clear y0 y1 yf0 yf1 q0 q1 r8 P10 N10 vlen
          generalize ((w10.setCell ⟨g, k * 2, none⟩ (.int .i64 pa)).setCell ⟨g, k * 2 + 1, none⟩ (.int .i64 pl)) = w11 at *
          have q0 : w11.cell? ⟨p, 0, none⟩ = some (.int .i64 pa) := P11.cell 0
          have q1 : w11.cell? ⟨p, 1, none⟩ = some (.int .i64 pl) := P11.cell 1
          have t1 : w11.cell? ⟨w.heap.size + 1, 1, none⟩ = some (.int .i64 s.phase) := N11.out.st.cell 1
          have HE11 := Lib.hid e11; clear e11 P11
          have N13 := Lib.hid (N11.out.old (Below.refl _ _).drew)
          have hS13 : (w11.drew).heap.size = w11.heap.size := rfl
          have HS13 := Lib.hid hS13; clear hS13
          cases ps
          · go_wp2
            go_roundw
            case rel => simp only [hfr]; ((repeat apply Exists.intro); exact ⟨⟨k + 1, us, by omega, by go_num, N13.out.quietly (by rw [HP.out])⟩, rfl⟩)
            case measure => simp [intOf]; omega
          · have SY := Lib.hid (N13.out.say GJ.out GS.out SM.out HN.out hlt (by rw [HP.out]) SU.out HE.out (by omega) (by omega))
            have MS : Hid (msgsG j s k ++ sayV j.kind s.phase k (wokeG j s k).1 j.es = msgsG j s k ++ sayV j.kind s.phase k (wokeG j s k).1 j.es) := rfl
            rw [HE11.out] at SY
            simp only at SY
            go_wp2_with fail
            refine SY.out.mono ?_
            rintro e w12 ⟨rfl, us', hr12, hc12⟩
            have N12 := Lib.hid (N13.out.said (by rw [HP.out]) (by rw [HE11.out]; exact hr12) hc12 (Nat.le_refl _) (by omega) (by omega) GR.out N13.out.below.size)
            clear hr12 hc12 SY
            go_wp2
            go_roundw
            case rel => simp only [hfr]; ((repeat apply Exists.intro); exact ⟨⟨k + 1, us', by omega, by go_num, N12.out⟩, rfl⟩)
            case measure => simp [intOf]; omega
    · obtain rfl : k = n := by omega
      have r10 : wr.cell? ⟨w3.heap.size, 10, none⟩ = some (.int .i64 0) := hN.rnd.cell 10
      have r9 : wr.cell? ⟨w3.heap.size, 9, none⟩ = some (.slice (some ⟨M, 0, none⟩) k k) := hN.rnd.cell 9
      have HNX := Lib.hid hN; clear hN
      go_wp2_with fail
      have MLEN := Lib.hid (fun u => (show (boxG (msgsG j s k) u).length ≤ 100000 from by
        have h1 := msgs_len j s k
        have h2 := SM.out.few
        rw [HN'.out] at h2
        have h3 : (boxG (msgsG j s k) u).length ≤ (msgsG j s k).length := by unfold boxG; rw [List.length_map]; exact List.length_filter_le _ _
        omega))
      clear r9 r10
      generalize hwo : wr = Wo at *
      clear hwo
      go_loopw [13, 123] (fun any i wr => ∃ q : Nat, q ≤ k ∧ i = .int .i64 q ∧ any = .bool (anyG ((mailG j s).take q)) ∧ RowsC wr M k (sortK (msgsG j s k) q) us ∧ Chg (fun k => w3.heap.size + 1 ≤ k) Wo wr) (fun _ i _ => k - (intOf i).toNat)
      case atStart => exact ⟨0, Nat.zero_le _, rfl, rfl, HNX.out.rows.c.congr (fun u _ => by unfold sortK; rw [if_neg (by omega)]), Chg.refl _ _⟩
      case round =>
        obtain ⟨q, hq, rfl, rfl, hrw, hch⟩ := hrel
        by_cases hqk : q < k
        · obtain ⟨rv, hrv⟩ : ∃ rv, us[q]? = some rv := ⟨_, List.getElem?_eq_getElem (by have := hrw.len; omega)⟩
          have own := hrw.row q rv hrv
          have eq1 : sortK (msgsG j s k) q q = boxG (msgsG j s k) q := by unfold sortK; rw [if_neg (by omega)]
          rw [eq1] at own
          have mcell : wr.cell? ⟨M, q, none⟩ = some rv := by have := hrw.blk.cell q; rw [List.getElem?_toArray] at this; exact this.trans hrv
          have SO := Lib.hid (sort_own rv _ wr (MLEN.out q) own)
          have hml : (mailG j s)[q]? = some (sortG (boxG (msgsG j s k) q)) := by rw [mailG_at, if_pos (by rw [HN'.out]; exact hqk), HN'.out]
          have AT := Lib.hid (anyG_take hml)
          have LE : Hid ((sortG (boxG (msgsG j s k) q)).isEmpty = decide ((boxG (msgsG j s k) q).length = 0)) := by
            have := sortG_len (boxG (msgsG j s k) q)
            unfold Hid
            cases hz : sortG (boxG (msgsG j s k) q) with
            | nil => rw [hz] at this; simp at this; simp [← this]
            | cons a l => rw [hz] at this; simp at this; rw [← this]; simp
          have SB := Lib.hid ((HNX.out.rows.row q rv hrv).2)
          obtain ⟨A9, c9, rfl⟩ : ∃ A9 c9, rv = .slice A9 (boxG (msgsG j s k) q).length c9 := by
            rcases own.2 with ⟨rfl, h0⟩ | ⟨g9, c9, _, rfl, _⟩
            · exact ⟨none, 0, by rw [h0]⟩
            · exact ⟨_, _, rfl⟩
          have HRW := Lib.hid hrw; have HCH := Lib.hid hch; have HRV := Lib.hid hrv
          clear hrw hch own eq1 hml hrv
          generalize hbl : (boxG (msgsG j s k) q).length = bl at *
          have HBL := Lib.hid hbl; clear hbl
          go_wp2_with fail
          refine SO.out.mono ?_
          rintro e w6 ⟨rfl, hown6, hc6⟩
          have R6 := Lib.hid (HRW.out.put HRV.out (by rw [sortG_len]; exact hown6) hc6)
          have C6 := Lib.hid (HCH.out.trans (hc6.mono (fun k _ hk => SB.out k hk)))
          clear hown6 hc6 mcell
          cases hany : anyG ((mailG j s).take q)
          · have HA := Lib.hid hany
            go_wp2
            go_roundw
            case rel => exact ⟨q + 1, by omega, by go_num, by rw [AT.out, HA.out, LE.out]; rcases Nat.eq_zero_or_pos bl with h | h; simp [h]; simp [h]; omega, by rw [← sortK_put]; exact R6.out, C6.out⟩
            case measure => simp [intOf]; omega
          · have HA := Lib.hid hany
            go_wp2
            go_roundw
            case rel => exact ⟨q + 1, by omega, by go_num, by rw [AT.out, HA.out]; rfl, by rw [← sortK_put]; exact R6.out, C6.out⟩
            case measure => simp [intOf]; omega
        · obtain rfl : q = k := by omega
          have RES := HNX.out.res.chg hch (by omega)
          have RND := HNX.out.rnd.chg hch (by omega)
          have OWN := own_chg HNX.out.own hch (fun g' hg' => by simp [Value.ownBlock] at hg'; have := GR.out; omega)
          have BEL := Lib.hid (HNX.out.below.trans (hch.below (B := w.heap.size) HNX.out.below.size (fun k hk => by omega)))
          rw [← HN'.out, valsK_all j s (by rw [HN'.out]; exact LV.out), HN'.out] at OWN
          have HRW := Lib.hid hrw
          have MT : Hid ((mailG j s).take q = mailG j s) := by unfold Hid; rw [List.take_of_length_le (by rw [len_mailG, HN'.out]; exact Nat.le_refl _)]
          rw [MT.out]
          have VL : Hid ((valsG j s).length = q) := by unfold Hid; rw [len_valsG, HN'.out]
          have SLV := Sl.of_own (sz := 2) (enc := encV) (w := wr) (base := w.heap.size + 1 + 1 + 1) (e := 40) (v := .slice (some ⟨g, 0, none⟩) q c1) (l := valsG j s) (fun _ => rfl) (by rw [VL.out]; exact OWN)
          have HOWN := Lib.hid OWN; have HRES := Lib.hid RES; have HRND := Lib.hid RND; have HSLV := Lib.hid SLV
          clear hrw hch RES RND OWN SLV
          cases hany : anyG (mailG j s)
          · have HA := Lib.hid hany
            clear hany
            have NXT := Lib.hid (nextG_quiet HD.out HA.out)
            have QU := Lib.hid (quiet_any w3.heap.size j ev ⟨s.step + 1, s.phase, false, false, valsG j s, mailG j s⟩ (.slice (some ⟨g, 0, none⟩) q c1) (.slice (some ⟨M, 0, none⟩) q q) wr (by have := HRND.out; rw [← HN.out] at this; exact this) rfl rfl (by rcases GS.out.phase with h | h; exact Or.inl h; exact Or.inr h.1) HSLV.out)
            go_wp2_with fail
            refine QU.out.mono ?_
            rintro e w7 ⟨rfl, hc7, hr7⟩
            generalize quietG j.kind s.phase (openB (valsG j s)) = Q at *
            obtain ⟨qp, qf, qd⟩ := Q
            have hr7' : Bk w7 w3.heap.size 64 #[.int .i64 j.n, ev, .int .i64 j.kind, .int .i64 j.src, .int .i64 (s.step + 1), .int .i64 qp, .bool qf, .bool qd, .slice (some ⟨g, 0, none⟩) q c1, .slice (some ⟨M, 0, none⟩) q q, .int .i64 0] := hr7
            have RES7 := Lib.hid (HRES.out.chg hc7 (by have := Bk.ne HRES.out HRND.out (by decide); exact this))
            have OWN7 := Lib.hid (own_chg HOWN.out hc7 (fun g' hg' e => by simp [Value.ownBlock] at hg'; have := GR.out; omega))
            have ROW7 := Lib.hid (HRW.out.else_ HRND.out (by decide) (by decide) hc7)
            have BEL7 := Lib.hid (BEL.out.trans (hc7.below (B := w.heap.size) BEL.out.size (fun k hk => by omega)))
            clear hr7 hc7 QU
            have n4 : w7.cell? ⟨w3.heap.size, 4, none⟩ = some (.int .i64 (s.step + 1)) := hr7'.cell 4
            have n5 : w7.cell? ⟨w3.heap.size, 5, none⟩ = some (.int .i64 qp) := hr7'.cell 5
            have n6 : w7.cell? ⟨w3.heap.size, 6, none⟩ = some (.bool qf) := hr7'.cell 6
            have n7 : w7.cell? ⟨w3.heap.size, 7, none⟩ = some (.bool qd) := hr7'.cell 7
            have n8 : w7.cell? ⟨w3.heap.size, 8, none⟩ = some (.slice (some ⟨g, 0, none⟩) q c1) := hr7'.cell 8
            have n9 : w7.cell? ⟨w3.heap.size, 9, none⟩ = some (.slice (some ⟨M, 0, none⟩) q q) := hr7'.cell 9
            have d0 : w7.cell? ⟨w.heap.size + 1 + 1, 0, none⟩ = some (.int .i64 0) := RES7.out.cell 0
            have d1 : w7.cell? ⟨w.heap.size + 1 + 1, 1, none⟩ = some (.int .i64 0) := RES7.out.cell 1
            have d2 : w7.cell? ⟨w.heap.size + 1 + 1, 2, none⟩ = some (.bool false) := RES7.out.cell 2
            have d3 : w7.cell? ⟨w.heap.size + 1 + 1, 3, none⟩ = some (.bool false) := RES7.out.cell 3
            have d4 : w7.cell? ⟨w.heap.size + 1 + 1, 4, none⟩ = some (.slice none 0 0) := RES7.out.cell 4
            have d5 : w7.cell? ⟨w.heap.size + 1 + 1, 5, none⟩ = some (.slice none 0 0) := RES7.out.cell 5
            have f0 := RES7.out.froz 0
            have f1 := RES7.out.froz 1
            have f2 := RES7.out.froz 2
            have f3 := RES7.out.froz 3
            have f4 := RES7.out.froz 4
            have f5 := RES7.out.froz 5
            have RNZ : w3.heap.size ≠ w.heap.size + 1 + 1 := by omega
            clear hr7'
            go_wp2
            change bodyPost _ _ _ _ _ (put6 w7 (w.heap.size + 1 + 1) (.int .i64 (s.step + 1)) (.int .i64 qp) (.bool qf) (.bool qd) (.slice (some ⟨g, 0, none⟩) q c1) (.slice (some ⟨M, 0, none⟩) q q))
            rw [NXT.out]
            have P := put6_bk RES7.out (.int .i64 (s.step + 1)) (.int .i64 qp) (.bool qf) (.bool qd) (.slice (some ⟨g, 0, none⟩) q c1) (.slice (some ⟨M, 0, none⟩) q q)
            have e0 := P.cell 0
            have e1 := P.cell 1
            have e2 := P.cell 2
            have e3 := P.cell 3
            have e4 := P.cell 4
            have e5 := P.cell 5
            simp only [List.getElem?_toArray] at e0 e1 e2 e3 e4 e5
            refine bodyPost_ret (v := .tuple #[.agg #[.int .i64 (s.step + 1), .int .i64 qp, .bool qf, .bool qd, .slice (some ⟨g, 0, none⟩) q c1, .slice (some ⟨M, 0, none⟩) q q], .int .i64 0]) ?_ rfl ⟨_, _, rfl, fun W9 hW9 hk9 => ⟨?_, ?_⟩, put6_below BEL7.out (by omega) _ _ _ _ _ _⟩
            · simp [results, Try.f12, go_sem, e0, e1, e2, e3, e4, e5]
            · refine Sl.of_own (base := w.heap.size + 1 + 1 + 1) (e := 40) (fun _ => rfl) ?_
              show World.ownsRow _ _ _ _ _ (valsG j s).length _
              rw [VL.out]
              exact own_from (put6_own OWN7.out (by omega) _ _ _ _ _ _) (by omega) hk9
            · have := (ROW7.out.else_ RES7.out (by decide) (by decide) (put6_chg w7 _ (.int .i64 (s.step + 1)) (.int .i64 qp) (.bool qf) (.bool qd) (.slice (some ⟨g, 0, none⟩) q c1) (.slice (some ⟨M, 0, none⟩) q q))).from (by omega) (fun u v g hv hg => by have := (HNX.out.rows.row u v hv).2 g hg; omega) hk9 |>.mx (k := q) (Nat.le_refl _) (by unfold maxLen; omega)
              show Mx _ _ _ (mailG j s)
              rw [mailG_eq, HN'.out]
              exact this
          · have HA := Lib.hid hany
            clear hany
            have NXT := Lib.hid (nextG_go HD.out HA.out)
            have hr7' := HRND.out
            have n4 : wr.cell? ⟨w3.heap.size, 4, none⟩ = some (.int .i64 (s.step + 1)) := hr7'.cell 4
            have n5 : wr.cell? ⟨w3.heap.size, 5, none⟩ = some (.int .i64 s.phase) := hr7'.cell 5
            have n6 : wr.cell? ⟨w3.heap.size, 6, none⟩ = some (.bool false) := hr7'.cell 6
            have n7 : wr.cell? ⟨w3.heap.size, 7, none⟩ = some (.bool false) := hr7'.cell 7
            have n8 : wr.cell? ⟨w3.heap.size, 8, none⟩ = some (.slice (some ⟨g, 0, none⟩) q c1) := hr7'.cell 8
            have n9 : wr.cell? ⟨w3.heap.size, 9, none⟩ = some (.slice (some ⟨M, 0, none⟩) q q) := hr7'.cell 9
            have d0 : wr.cell? ⟨w.heap.size + 1 + 1, 0, none⟩ = some (.int .i64 0) := HRES.out.cell 0
            have d1 : wr.cell? ⟨w.heap.size + 1 + 1, 1, none⟩ = some (.int .i64 0) := HRES.out.cell 1
            have d2 : wr.cell? ⟨w.heap.size + 1 + 1, 2, none⟩ = some (.bool false) := HRES.out.cell 2
            have d3 : wr.cell? ⟨w.heap.size + 1 + 1, 3, none⟩ = some (.bool false) := HRES.out.cell 3
            have d4 : wr.cell? ⟨w.heap.size + 1 + 1, 4, none⟩ = some (.slice none 0 0) := HRES.out.cell 4
            have d5 : wr.cell? ⟨w.heap.size + 1 + 1, 5, none⟩ = some (.slice none 0 0) := HRES.out.cell 5
            have f0 := HRES.out.froz 0
            have f1 := HRES.out.froz 1
            have f2 := HRES.out.froz 2
            have f3 := HRES.out.froz 3
            have f4 := HRES.out.froz 4
            have f5 := HRES.out.froz 5
            have RNZ : w3.heap.size ≠ w.heap.size + 1 + 1 := by omega
            clear hr7'
            go_wp2
            change bodyPost _ _ _ _ _ (put6 wr (w.heap.size + 1 + 1) (.int .i64 (s.step + 1)) (.int .i64 s.phase) (.bool false) (.bool false) (.slice (some ⟨g, 0, none⟩) q c1) (.slice (some ⟨M, 0, none⟩) q q))
            rw [NXT.out]
            have P := put6_bk HRES.out (.int .i64 (s.step + 1)) (.int .i64 s.phase) (.bool false) (.bool false) (.slice (some ⟨g, 0, none⟩) q c1) (.slice (some ⟨M, 0, none⟩) q q)
            have e0 := P.cell 0
            have e1 := P.cell 1
            have e2 := P.cell 2
            have e3 := P.cell 3
            have e4 := P.cell 4
            have e5 := P.cell 5
            simp only [List.getElem?_toArray] at e0 e1 e2 e3 e4 e5
            refine bodyPost_ret (v := .tuple #[.agg #[.int .i64 (s.step + 1), .int .i64 s.phase, .bool false, .bool false, .slice (some ⟨g, 0, none⟩) q c1, .slice (some ⟨M, 0, none⟩) q q], .int .i64 0]) ?_ rfl ⟨_, _, rfl, fun W9 hW9 hk9 => ⟨?_, ?_⟩, put6_below BEL.out (by omega) _ _ _ _ _ _⟩
            · simp [results, Try.f12, go_sem, e0, e1, e2, e3, e4, e5]
            · refine Sl.of_own (base := w.heap.size + 1 + 1 + 1) (e := 40) (fun _ => rfl) ?_
              show World.ownsRow _ _ _ _ _ (valsG j s).length _
              rw [VL.out]
              exact own_from (put6_own HOWN.out (by omega) _ _ _ _ _ _) (by omega) hk9
            · have := (HRW.out.else_ HRES.out (by decide) (by decide) (put6_chg wr _ (.int .i64 (s.step + 1)) (.int .i64 s.phase) (.bool false) (.bool false) (.slice (some ⟨g, 0, none⟩) q c1) (.slice (some ⟨M, 0, none⟩) q q))).from (by omega) (fun u v g hv hg => by have := (HNX.out.rows.row u v hv).2 g hg; omega) hk9 |>.mx (k := q) (Nat.le_refl _) (by unfold maxLen; omega)
              show Mx _ _ _ (mailG j s)
              rw [mailG_eq, HN'.out]
              exact this
end Go.Proofs.Ytbholafggbdieaa
