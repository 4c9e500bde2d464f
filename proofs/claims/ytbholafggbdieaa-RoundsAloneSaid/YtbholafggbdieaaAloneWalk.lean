/- RoundsAlone: the walk. -/
import Derived.Test.YtbholafggbdieaaAlone
namespace Go.Proofs.Ytbholafggbdieaa
open Go.RowKit

theorem flat_three : ∀ l : List Ed, (l.flatMap encE).length = l.length * 3
  | [] => rfl
  | x :: xs => by have := flat_three xs; simp only [List.flatMap_cons, List.length_append, List.length_cons, this]; simp [encE]; omega
theorem nil_sl {w : World} {B : Nat} : Sl 3 encE w B (.slice none 0 0) [] := Sl.nil _ _

set_option maxRecDepth 10000 in
set_option maxHeartbeats 400000 in
theorem alone_some (n0 kind src turn : Int) (ws : List Wy) (v : Value) (w : World) (h0 : ws ≠ []) (hn : I64 n0) (hk : I64 kind) (hs : I64 src) (ht : I64 turn) (hv : Sl 3 encW w w.heap.size v ws) (hw : ∀ x ∈ ws, I64 x.f ∧ I64 x.t ∧ I64 x.g) :
    Calls Try.prog 5 #[.int .i64 n0, v, .int .i64 kind, .int .i64 src, .int .i64 turn] w fun e w' => e = .returned (.bool true) ∧ Below w.heap.size w w' := by
  have JB := Lib.hid (job_any n0 kind src ws v w hn hk hs hv hw)
  have hlen : 1 ≤ (jobG n0 ws kind src).es.length := by
    show 1 ≤ (madeE _ ws (min ws.length 10)).length
    rw [madeE_len (Nat.min_le_left _ _)]
    have : ws.length ≠ 0 := fun e => h0 (List.eq_nil_of_length_eq_zero e)
    omega
  obtain ⟨hj, hm, hn8, hl10, heg⟩ := jobG_good n0 ws kind src
  have hsr : 0 ≤ (jobG n0 ws kind src).src ∧ (jobG n0 ws kind src).src < (jobG n0 ws kind src).n := pick_range src (1 + pickG n0 6) (by have := pick_range n0 6 (by decide); omega)
  generalize jobG n0 ws kind src = j at *
  clear hv hw h0
  generalize hle : j.es.length = len at *
  have HLE := Lib.hid hle; clear hle
  have PT := Lib.hid (fun W => picked_any turn (len + 1) ht (by omega) (by omega) W)
  obtain ⟨pt0, pt1⟩ := pick_range turn (len + 1) (by omega)
  obtain ⟨t, htt⟩ : ∃ t : Nat, pickG turn (len + 1) = (t : Int) := ⟨(pickG turn (len + 1)).toNat, by omega⟩
  rw [htt] at PT pt0 pt1
  have htl : t ≤ len := by omega
  clear htt
  obtain ⟨hj2, hm2⟩ := turn_good hj hn8 (by rw [HLE.out]; exact hl10) heg hsr t
  obtain ⟨K, K1, K2, hK, hKs⟩ := job_ends hj hn8
  have SIM := Lib.hid (sim_it (turn_sim j t) (fun i hi => (ok_it hj hm (ok_begin hj) i (by have : (beginG j).step = 0 := rfl; omega)).good) K (by omega))
  have hK' : (itG (turnJ j t) K (beginG (turnJ j t))).done = true := by rw [SIM.out.done]; exact hK
  have R1 := Lib.hid (fun ev W he => ran_any j hj hm K hK (by omega) ev W he)
  have R2 := Lib.hid (fun ev W he => ran_any (turnJ j t) hj2 hm2 K hK' (by omega) ev W he)
  have GS := Lib.hid (ok_it hj hm (ok_begin hj) K (by have : (beginG j).step = 0 := rfl; omega)).good
  have GJ := Lib.hid hj
  have AE : Hid (ansG (turnJ j t) (itG (turnJ j t) K (beginG (turnJ j t))) = ansG j (itG j K (beginG j))) := by unfold Hid ansG; rw [SIM.out.vals]; rfl
  clear hj hm hj2 hm2 hK hK' hKs heg
  go_enter Try.func5, Try.ntmps5
  go_wp2_with fail
  refine JB.out.mono ?_
  rintro e w1 ⟨ev, rfl, hsl, hb1, _⟩
  obtain ⟨b, o, c, rfl, hc1, hc2, hbl, hcell⟩ := hsl.at_ (k := 0) (by rw [HLE.out]; omega)
  rw [HLE.out] at hc1 hsl ⊢
  unfold maxLen at hc2
  have J1 := Bk.new w1 27 #[.int .i64 j.n, .slice (some ⟨b, o, none⟩) len c, .int .i64 j.kind, .int .i64 j.src]
  have J2 := cellr w1 (.cells #[.int .i64 j.n, .slice (some ⟨b, o, none⟩) len c, .int .i64 j.kind, .int .i64 j.src] 27) #[.int .i64 j.n, .slice (some ⟨b, o, none⟩) len c, .int .i64 j.kind, .int .i64 j.src] 27
  have J1' := J1.alloc (.cells #[.int .i64 j.n, .slice (some ⟨b, o, none⟩) len c, .int .i64 j.kind, .int .i64 j.src] 27)
  have B2 := below_two w1 (.cells #[.int .i64 j.n, .slice (some ⟨b, o, none⟩) len c, .int .i64 j.kind, .int .i64 j.src] 27) (.cells #[.int .i64 j.n, .slice (some ⟨b, o, none⟩) len c, .int .i64 j.kind, .int .i64 j.src] 27)
  have HW1 := Lib.hid hb1.size
  have HB2 := Lib.hid (hb1.trans (B2.mono hb1.size))
  have SL2 := Lib.hid (hsl.old B2)
  have EC := Lib.hid (fun i (x : Ed) (hx : j.es[i]? = some x) q u (hu : (encE x)[q]? = some u) => (B2.cell (p := ⟨b, o + i * 3 + q, none⟩) hbl).trans (hcell i x hx q u hu))
  have HJ1 := Lib.hid J1'; have HJ2 := Lib.hid J2
  have hbl2 := hbl
  have LB := Lib.hid hbl2
  clear J1 J2 J1' hb1 B2 hsl hcell hbl hbl2
  go_wp2_with fail
  refine (PT.out _).mono ?_
  rintro e w2 ⟨rfl, rfl⟩
  go_wp2_with fail
  have S2 : ((w1.alloc (.cells #[.int .i64 j.n, .slice (some ⟨b, o, none⟩) len c, .int .i64 j.kind, .int .i64 j.src] 27)).alloc (.cells #[.int .i64 j.n, .slice (some ⟨b, o, none⟩) len c, .int .i64 j.kind, .int .i64 j.src] 27)).heap.size = w1.heap.size + 1 + 1 := by simp
  generalize ((w1.alloc (.cells #[.int .i64 j.n, .slice (some ⟨b, o, none⟩) len c, .int .i64 j.kind, .int .i64 j.src] 27)).alloc (.cells #[.int .i64 j.n, .slice (some ⟨b, o, none⟩) len c, .int .i64 j.kind, .int .i64 j.src] 27)) = W2 at *
  have HS2 := Lib.hid S2; clear S2
  have htl' : (t : Int) ≤ (len : Int) := by omega
  have htc' : (t : Int) ≤ (c : Int) := by omega
  have j11 : W2.cell? ⟨w1.heap.size, 1, none⟩ = some (.slice (some ⟨b, o, none⟩) len c) := HJ1.out.cell 1
  obtain ⟨ao, had, hao⟩ : ∃ ao : Nat, (if c = t then some (⟨b, o, none⟩ : Addr) else some ⟨b, o + t * 3, none⟩) = some ⟨b, ao, none⟩ ∧ (t < len → ao = o + t * 3) := by
    by_cases hct : c = t
    · exact ⟨o, by rw [if_pos hct], fun h => by omega⟩
    · exact ⟨o + t * 3, by rw [if_neg hct], fun _ => rfl⟩
  have HAO := Lib.hid hao; clear hao
  have NEW1 : Hid (∀ q u, ((j.es.drop t).flatMap encE)[q]? = some u → W2.cell? ((⟨b, ao, none⟩ : Addr).add q) = some u) := by
    intro q u hu
    have hql : q < ((j.es.drop t).flatMap encE).length := (List.getElem?_eq_some_iff.1 hu).1
    rw [flat_three] at hql
    rw [List.length_drop, HLE.out] at hql
    obtain ⟨x, hx⟩ : ∃ x, (j.es.drop t)[q / 3]? = some x := ⟨_, List.getElem?_eq_getElem (by rw [List.length_drop, HLE.out]; omega)⟩
    have hm : q % 3 < (encE x).length := Nat.mod_lt _ (by decide)
    have h1 := flat_at (enc := encE) (sz := 3) (fun _ => rfl) (j.es.drop t) (q / 3) x hx (q % 3) ((encE x)[q % 3]) (List.getElem?_eq_getElem hm) (Nat.mod_lt _ (by decide))
    rw [show q / 3 * 3 + q % 3 = q by omega, hu] at h1
    rw [List.getElem?_drop] at hx
    have h2 := EC.out (t + q / 3) x hx (q % 3) ((encE x)[q % 3]) (List.getElem?_eq_getElem hm)
    rw [HAO.out (by omega), show (⟨b, o + t * 3, none⟩ : Addr).add q = ⟨b, o + t * 3 + q, none⟩ by unfold Addr.add; split <;> simp_all]
    rw [show o + (t + q / 3) * 3 + q % 3 = o + t * 3 + q by omega] at h2
    rw [h2]; exact h1.symm
  have NEW2 : Hid (∀ q u, (j.es.flatMap encE)[q]? = some u → W2.cell? ((⟨b, o, none⟩ : Addr).add q) = some u) := by
    intro q u hu
    have hql : q < (j.es.flatMap encE).length := (List.getElem?_eq_some_iff.1 hu).1
    rw [flat_three, HLE.out] at hql
    obtain ⟨x, hx⟩ : ∃ x, j.es[q / 3]? = some x := ⟨_, List.getElem?_eq_getElem (by rw [HLE.out]; omega)⟩
    have hm : q % 3 < (encE x).length := Nat.mod_lt _ (by decide)
    have h1 := flat_at (enc := encE) (sz := 3) (fun _ => rfl) j.es (q / 3) x hx (q % 3) ((encE x)[q % 3]) (List.getElem?_eq_getElem hm) (Nat.mod_lt _ (by decide))
    rw [show q / 3 * 3 + q % 3 = q by omega, hu] at h1
    have h2 := EC.out (q / 3) x hx (q % 3) ((encE x)[q % 3]) (List.getElem?_eq_getElem hm)
    rw [show (⟨b, o, none⟩ : Addr).add q = ⟨b, o + q, none⟩ by unfold Addr.add; split <;> simp_all]
    rw [show o + q / 3 * 3 + q % 3 = o + q by omega] at h2
    rw [h2]; exact h1.symm
  have ONE : Hid (∀ l : List Ed, ∀ u ∈ l.flatMap encE, u.oneCell' = true) := by
    intro l u hu
    obtain ⟨x, _, hx⟩ := List.mem_flatMap.1 hu
    simp [encE] at hx
    rcases hx with rfl | rfl | rfl <;> rfl
  obtain ⟨i0, hi0, hz0, hz1, hz2⟩ := info_parts infoEdge
  refine wp_region_zs (fun w' => w'.cell? ⟨w1.heap.size, 1, none⟩ = some (.slice (some ⟨b, o, none⟩) len c)) [] (by kernel_rfl) ?_
  refine wpZ_batch (is := [0, 1, 2, 3, 4, 6, 7, 8]) (by kernel_rfl) j11 (a1 := ?_) ?_ ?_
  rotate_left
  · repeat
      (refine SeqY.run (v := ?_) rfl (by rfl) ?_ ?_
       rotate_left
       · (intro W hS; (try dsimp only at hS); go_simp; (try with_reducible rfl)))
    exact SeqY.nil
  refine wpZ_one (i := 5) (by kernel_rfl) rfl (fun K hK => ?_)
  refine step_append_own rfl (.const (.slice none 0 0)) (.tmp 37) 23 rfl W2.heap.size 46 i0 (.agg #[.int .i64 0, .int .i64 0, .int .i64 0]) 3 24 Try.underlying23 hi0 hz0 hz1 hz2 rfl (by decide) (.slice none 0 0) 0 [] rfl (World.ownsRow_nil _ _ _ _)
    ⟨b, ao, none⟩ (len - t) (c - t) ((j.es.drop t).flatMap encE) ?zx (by rw [flat_three, List.length_drop, HLE.out]) (fun q u hu => NEW1.out q u hu) (ONE.out _) (by unfold maxLen; omega) (by omega) (Nat.le_refl _) ?_
  case zx => go_simp
  intro v3 W3 hown3 hgrow3 hat3
  have g3 : Below W2.heap.size W2 W3 := ((Below.refl _ W2).drew).grown hgrow3 (Nat.le_refl _) (fun k e => by simp [Value.ownBlock] at e)
  have j13 : W3.cell? ⟨w1.heap.size, 1, none⟩ = some (.slice (some ⟨b, o, none⟩) len c) := (HJ1.out.old g3).cell 1
  refine hK.out _ _ j13 (fun hS3 => ?_)
  clear hK K had
  refine wpZ_one (i := 9) (by kernel_rfl) rfl (fun K hK => ?_)
  refine step_append_own rfl (.tmp 38) (.tmp 41) 23 rfl W2.heap.size 46 i0 (.agg #[.int .i64 0, .int .i64 0, .int .i64 0]) 3 24 Try.underlying23 hi0 hz0 hz1 hz2 rfl (by decide) v3 _ _ ?zs hown3
    ⟨b, o, none⟩ len c (j.es.flatMap encE) ?zx (by rw [flat_three, HLE.out]) (fun q u hu => (g3.cell (p := (⟨b, o, none⟩ : Addr).add q) (by have := LB.out; have := HS2.out; simp [Addr.add]; split <;> (simp; omega))).trans (NEW2.out q u hu)) (ONE.out _) (by unfold maxLen; omega) (by omega) g3.size ?_
  case zs => go_simp
  case zx => go_simp
  intro v4 W4 hown4 hgrow4 hat4
  have g4 : Below W2.heap.size W2 W4 := g3.grown hgrow4 g3.size (fun k e => by have := (hown3.lt k e).1; exact this)
  have b4 := HJ2.out.old g4
  have j14 : W4.cell? ⟨w1.heap.size, 1, none⟩ = some (.slice (some ⟨b, o, none⟩) len c) := (HJ1.out.old g4).cell 1
  have c21 : W4.cell? ⟨w1.heap.size + 1, 1, none⟩ = some (.slice (some ⟨b, o, none⟩) len c) := b4.cell 1
  have f21 := b4.froz 1
  refine hK.out _ _ j14 (fun hS4 => ?_)
  clear hK K hS3
  have hv4 : ∃ A4 c4, v4 = .slice A4 (len - t + len) c4 := by
    rcases hown4.2 with ⟨_, h0⟩ | ⟨_, _, _, rfl, _⟩
    · omega
    · exact ⟨_, _, by rw [Nat.zero_add]⟩
  obtain ⟨A4, c4, rfl⟩ := hv4
  have O4 := Lib.hid (own_set hown4 (show w1.heap.size + 1 < W2.heap.size by have := HS2.out; omega) 1 (.slice A4 (len - t + len) c4))
  have J24 := Lib.hid (b4.set 1 (.slice A4 (len - t + len) c4))
  have J14 := Lib.hid ((HJ1.out.old g4).far (p := ⟨w1.heap.size + 1, 1, none⟩) (by simp) (.slice A4 (len - t + len) c4))
  have G4 := Lib.hid ((HB2.out.trans (g4.mono HB2.out.size)).setCell (p := ⟨w1.heap.size + 1, 1, none⟩) (by show w.heap.size ≤ w1.heap.size + 1; have := HW1.out; omega) (.slice A4 (len - t + len) c4))
  have SL4 := Lib.hid ((SL2.out.below g4).set ⟨w1.heap.size + 1, 1, none⟩ (.slice A4 (len - t + len) c4) (fun g e => by have h : b = g := (by simpa [Value.ownBlock] using e); have := LB.out; show g ≠ w1.heap.size + 1; omega))
  refine wpZ_batch (is := [10, 11]) (by kernel_rfl) hS4 (a1 := ?_) ?_ ?_
  rotate_left
  · repeat
      (refine SeqY.run (v := ?_) rfl (by rfl) ?_ ?_
       rotate_left
       · (intro W hS; (try dsimp only at hS); go_simp; (try with_reducible rfl)))
    exact SeqY.nil
  refine wpZ_one (i := 12) (by kernel_rfl) rfl (fun K hK => ?_)
  go_simp
  refine hK.out _ _ (J14.out.cell 1) (fun _ => ?_)
  clear hK K hS4
  refine wpZ_done (by kernel_rfl) ?_
  have TE : Hid ((turnJ j t).es.length = len - t + len) := by unfold Hid turnJ; rw [List.length_append, List.length_drop, HLE.out]
  have Z5 : Hid (W2.heap.size ≤ (W4.setCell ⟨w1.heap.size + 1, 1, none⟩ (.slice A4 (len - t + len) c4)).heap.size) := by have := g4.size; unfold Hid; simpa [World.setCell] using this
  have O5 := Lib.hid (Sl.of_own (sz := 3) (enc := encE) (l := (turnJ j t).es) (fun _ => rfl) (by rw [TE.out]; have := O4.out; simpa [turnJ] using this))
  clear hown3 hgrow3 hat3 hown4 hgrow4 hat4 g3 g4 b4 j13 j14 c21 f21 j11 O4
  generalize hw5 : World.setCell W4 ⟨w1.heap.size + 1, 1, none⟩ _ = W5 at *
  clear hw5
  have A0 : W5.cell? ⟨w1.heap.size, 0, none⟩ = some (.int .i64 j.n) := J14.out.cell 0
  have A1 : W5.cell? ⟨w1.heap.size, 1, none⟩ = some (.slice (some ⟨b, o, none⟩) len c) := J14.out.cell 1
  have A2 : W5.cell? ⟨w1.heap.size, 2, none⟩ = some (.int .i64 j.kind) := J14.out.cell 2
  have A3 : W5.cell? ⟨w1.heap.size, 3, none⟩ = some (.int .i64 j.src) := J14.out.cell 3
  go_wp2_with fail
  have SL5 := SL4.out.more Z5.out
  refine (R1.out _ _ SL5).mono ?_
  rintro e w6 ⟨lv, vv, mv, rfl, hl6, hr6, hb6⟩
  dsimp only [stV]
  obtain ⟨A7, c7, rfl⟩ := hr6.vals.shape
  obtain ⟨A8, c8, rfl⟩ := hr6.mail.shape
  obtain ⟨A9, c9, rfl⟩ := hl6.shape
  have D6 : Below W5.heap.size W5 w6 := hb6
  have k1 := J14.out.old D6
  have k2 := J24.out.old D6
  have q0 : w6.cell? ⟨w1.heap.size + 1, 0, none⟩ = some (.int .i64 j.n) := k2.cell 0
  have q1 : w6.cell? ⟨w1.heap.size + 1, 1, none⟩ = some (.slice A4 (len - t + len) c4) := k2.cell 1
  have q2 : w6.cell? ⟨w1.heap.size + 1, 2, none⟩ = some (.int .i64 j.kind) := k2.cell 2
  have q3 : w6.cell? ⟨w1.heap.size + 1, 3, none⟩ = some (.int .i64 j.src) := k2.cell 3
  have HK1 := Lib.hid k1
  have HL6 := Lib.hid hl6; have HD6 := Lib.hid D6; have HR6 := Lib.hid hr6
  have O6 := Lib.hid (O5.out.old D6)
  have ST6 := Bk.new w6 32 #[.int .i64 (itG j K (beginG j)).step, .int .i64 (itG j K (beginG j)).phase, .bool (itG j K (beginG j)).fresh, .bool (itG j K (beginG j)).done, .slice A7 (itG j K (beginG j)).vals.length c7, .slice A8 (itG j K (beginG j)).mail.length c8]
  have HST6 := Lib.hid ST6
  have l1 := k1.lt; have l2 := k2.lt
  clear k1 k2 hl6 D6 hb6 hr6 SL5 A0 A1 A2 A3 ST6
  go_wp2_with fail
  refine (R2.out _ _ (O6.out.old (Below.of_alloc _ _))).mono ?_
  rw [AE.out]
  rintro e w7 ⟨lv2, vv2, mv2, rfl, hl7, hr7, hb7⟩
  dsimp only [stV]
  obtain ⟨A10, c10, rfl⟩ := hr7.vals.shape
  obtain ⟨A11, c11, rfl⟩ := hr7.mail.shape
  obtain ⟨A12, c12, rfl⟩ := hl7.shape
  have D7 : Below w6.heap.size w6 w7 := (Below.of_alloc _ _).trans (hb7.mono (by simp))
  have st7 := HST6.out.old hb7
  have jj7 := HK1.out.old D7
  have m0 : w7.cell? ⟨w6.heap.size, 0, none⟩ = some (.int .i64 (itG j K (beginG j)).step) := st7.cell 0
  have n0' : w7.cell? ⟨w1.heap.size, 0, none⟩ = some (.int .i64 j.n) := jj7.cell 0
  have lt7 := st7.lt
  have lt8 := jj7.lt
  have SI := Lib.hid (sameInts_yes (ansG j (itG j K (beginG j))) _ _ _ ((HL6.out.old D7).old (Below.of_alloc w7 (.cells #[.int .i64 (itG (turnJ j t) K (beginG (turnJ j t))).step, .int .i64 (itG (turnJ j t) K (beginG (turnJ j t))).phase, .bool (itG (turnJ j t) K (beginG (turnJ j t))).fresh, .bool (itG (turnJ j t) K (beginG (turnJ j t))).done, .slice A10 (itG (turnJ j t) K (beginG (turnJ j t))).vals.length c10, .slice A11 (itG (turnJ j t) K (beginG (turnJ j t))).mail.length c11] 32))) (hl7.old (Below.of_alloc w7 (.cells #[.int .i64 (itG (turnJ j t) K (beginG (turnJ j t))).step, .int .i64 (itG (turnJ j t) K (beginG (turnJ j t))).phase, .bool (itG (turnJ j t) K (beginG (turnJ j t))).fresh, .bool (itG (turnJ j t) K (beginG (turnJ j t))).done, .slice A10 (itG (turnJ j t) K (beginG (turnJ j t))).vals.length c10, .slice A11 (itG (turnJ j t) K (beginG (turnJ j t))).mail.length c11] 32))))
  have B7 := Lib.hid (G4.out.trans ((HD6.out.trans (D7.mono HD6.out.size)).mono G4.out.size))
  have LN : Hid (((ansG j (itG j K (beginG j))).length : Int) = j.n) := by unfold Hid ansG; rw [List.length_map]; exact GS.out.vlen
  have tl : ((((ansG j (itG j K (beginG j))).length : Nat) : Int) == j.n) = true := by rw [LN.out]; simp
  have ts : ((itG j K (beginG j)).step == (itG (turnJ j t) K (beginG (turnJ j t))).step) = true := by rw [SIM.out.step]; simp
  have DJ := Lib.hid D7
  clear hl7 hr7 hb7 D7 st7 jj7 q0 q1 q2 q3
  go_wp2_with fail
  have CC := Below.of_alloc w7 (.cells #[.int .i64 (itG (turnJ j t) K (beginG (turnJ j t))).step, .int .i64 (itG (turnJ j t) K (beginG (turnJ j t))).phase, .bool (itG (turnJ j t) K (beginG (turnJ j t))).fresh, .bool (itG (turnJ j t) K (beginG (turnJ j t))).done, .slice A10 (itG (turnJ j t) K (beginG (turnJ j t))).vals.length c10, .slice A11 (itG (turnJ j t) K (beginG (turnJ j t))).mail.length c11] 32)
  refine SI.out.mono ?_
  rintro e w8 ⟨rfl, hb8⟩
  have E8 : Below w7.heap.size w7 w8 := CC.trans (hb8.mono CC.size)
  have m8 : w8.cell? ⟨w6.heap.size, 0, none⟩ = some (.int .i64 (itG j K (beginG j)).step) := (E8.cell (p := ⟨w6.heap.size, 0, none⟩) lt7).trans m0
  have m9 : w8.cell? ⟨w7.heap.size, 0, none⟩ = some (.int .i64 (itG (turnJ j t) K (beginG (turnJ j t))).step) := ((Bk.new w7 32 #[.int .i64 (itG (turnJ j t) K (beginG (turnJ j t))).step, .int .i64 (itG (turnJ j t) K (beginG (turnJ j t))).phase, .bool (itG (turnJ j t) K (beginG (turnJ j t))).fresh, .bool (itG (turnJ j t) K (beginG (turnJ j t))).done, .slice A10 (itG (turnJ j t) K (beginG (turnJ j t))).vals.length c10, .slice A11 (itG (turnJ j t) K (beginG (turnJ j t))).mail.length c11]).old hb8).cell 0
  have B8 := Lib.hid (B7.out.trans (E8.mono B7.out.size))
  clear E8 hb8 CC m0 n0'
  go_wp2
  go_ret
  exact ⟨rfl, B8.out⟩
end Go.Proofs.Ytbholafggbdieaa
