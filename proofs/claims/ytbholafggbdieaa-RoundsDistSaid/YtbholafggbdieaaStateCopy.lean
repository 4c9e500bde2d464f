/- rounds.clone of a state that is done: its mail is empty. -/
import Derived.Test.YtbholafggbdieaaSay
namespace Go.Proofs.Ytbholafggbdieaa
open Go.RowKit

/-- A slice of nothing. -/
def NoneV (v : Value) : Prop := ∃ A c, v = .slice A 0 c ∧ c ≤ maxLen
theorem NoneV.sl {v : Value} (h : NoneV v) (w : World) (B : Nat) : Sl 1 encN w B v [] := by
  obtain ⟨A, c, rfl, hc⟩ := h
  exact ⟨A, c, rfl, Nat.zero_le _, hc, fun h => absurd h (by simp)⟩
theorem NoneV.of {w : World} {B : Nat} {v : Value} (h : Sl 1 encN w B v []) : NoneV v := by
  obtain ⟨A, c, rfl, _, hc, _⟩ := h
  exact ⟨A, c, rfl, hc⟩
def NoneR (w : World) (e : Ending) (w' : World) : Prop := ∃ v, e = .returned v ∧ NoneV v ∧ Below w.heap.size w w'
theorem cloneI_none (A : Option Addr) (c : Nat) (w : World) : Calls Try.prog 43 #[.slice A 0 c] w (NoneR w) := by
  cases A with
  | none => exact (Try.slices_Clone_int_nil 0 c w).mono fun e w' ⟨he, hw⟩ => ⟨_, he, ⟨none, 0, rfl, Nat.zero_le _⟩, by rw [hw]; exact Below.refl _ _⟩
  | some a =>
    refine (Try.slices_Clone_int_zero a c w).mono fun e w' ⟨v', he, hown, _, hb⟩ => ⟨v', he, ?_, hb⟩
    rcases hown.2 with ⟨rfl, _⟩ | ⟨g, cap, cur, rfl, _, _, _, hcm, _⟩
    · exact ⟨_, _, rfl, Nat.zero_le _⟩
    · exact ⟨_, _, rfl, hcm⟩
theorem total_zero {mail : List (List Int)} (h : total mail = 0) : ∀ l ∈ mail, l = [] := by
  intro l hl
  unfold total at h
  have : l.length ≤ (mail.map List.length).sum := by
    have hm : l.length ∈ mail.map List.length := List.mem_map.2 ⟨l, hl, rfl⟩
    generalize mail.map List.length = L at hm
    induction L with
    | nil => cases hm
    | cons x L ih =>
      rw [List.sum_cons]
      rcases List.mem_cons.1 hm with rfl | hm
      · omega
      · have := ih hm; omega
  exact List.eq_nil_of_length_eq_zero (by omega)
def CopyR (s : Stt) (w : World) (e : Ending) (w' : World) : Prop := ∃ vv mv, e = .returned (.agg (stV s vv mv)) ∧ FreshSt w.heap.size w' s vv mv ∧ Below w.heap.size w w'
theorem mx_none {w : World} {M n : Nat} {vs : List Value} {mail : List (List Int)} (hb : Bk w M 38 vs.toArray) (hl : vs.length = n) (hn : n ≤ maxLen) (hv : ∀ v ∈ vs, NoneV v) (hm : mail.length = n) (he : ∀ l ∈ mail, l = []) :
    Mx w w.heap.size (.slice (some ⟨M, 0, none⟩) n n) mail := by
  refine ⟨vs, by omega, ⟨some ⟨M, 0, none⟩, n, by rw [hl], by omega, hn, fun _ => ⟨M, 0, rfl, hb.lt, fun i x hx j u hu => ?_⟩⟩, fun i u l hu hl => ?_⟩
  · match j, hu with
    | 0, hu =>
      simp at hu
      subst hu
      rw [hb.cell, Nat.zero_add, Nat.mul_one, Nat.add_zero, List.getElem?_toArray]
      exact hx
  · rw [he l (List.mem_of_getElem? hl)]
    exact (hv u (List.mem_of_getElem? hu)).sl _ _

set_option maxRecDepth 10000 in
set_option maxHeartbeats 1000000 in
theorem clone_any (n : Nat) (s : Stt) (vv mv : Value) (w : World) (hn : 1 ≤ n) (hn2 : n ≤ 200) (hvl : s.vals.length = n) (hml : s.mail.length = n) (ht : total s.mail = 0) (hr : StR w s vv mv) :
    Calls Try.prog 25 #[.agg #[.int .i64 s.step, .int .i64 s.phase, .bool s.fresh, .bool s.done, vv, mv]] w (CopyR s w) := by
  obtain ⟨hval, vs, hvs, hsl, hrows⟩ := hr
  have EMP := Lib.hid (total_zero ht)
  clear ht
  have NV : Hid (∀ k, k < n → ∃ u, vs[k]? = some u ∧ NoneV u) := by
    intro k hk
    refine ⟨_, List.getElem?_eq_getElem (by omega), ?_⟩
    have h1 := hrows k _ _ (List.getElem?_eq_getElem (by omega)) (List.getElem?_eq_getElem (by omega))
    rw [EMP.out _ (List.getElem_mem _)] at h1
    exact NoneV.of h1
  obtain ⟨b, o, c, rfl, hc1, hc2, hbl, hcell⟩ := hval.at_ (k := 0) (by omega)
  obtain ⟨b2, o2, c2, rfl, hd1, hd2, hbl2, hcell2⟩ := hsl.at_ (k := 0) (by omega)
  have CV := Lib.hid (fun W (hb : Below w.heap.size w W) => cloneV b o n c s.vals W hvl (by omega) (fun j u hu => by
    have hj : j < (s.vals.flatMap encV).length := (List.getElem?_eq_some_iff.1 hu).1
    rw [flat_two] at hj
    obtain ⟨x, hx⟩ : ∃ x, s.vals[j / 2]? = some x := ⟨_, List.getElem?_eq_getElem (by omega)⟩
    have hm : j % 2 < (encV x).length := Nat.mod_lt _ (by decide)
    have h1 := flat_at (enc := encV) (sz := 2) (fun _ => rfl) s.vals (j / 2) x hx (j % 2) ((encV x)[j % 2]) (List.getElem?_eq_getElem hm) (Nat.mod_lt _ (by decide))
    rw [show j / 2 * 2 + j % 2 = j by omega, hu] at h1
    have h2 := hcell (j / 2) x hx (j % 2) ((encV x)[j % 2]) (List.getElem?_eq_getElem hm)
    rw [show o + j / 2 * 2 + j % 2 = o + j by omega] at h2
    rw [hb.cell (p := ⟨b, _, none⟩) hbl, h2]
    exact h1.symm))
  have HC2 := Lib.hid hcell2
  clear hval hsl hrows hcell hcell2
  rw [hvl] at hc1 ⊢
  rw [hvs, hml] at hd1 ⊢
  have HS : Hid (stV s = fun a b => #[.int .i64 s.step, .int .i64 s.phase, .bool s.fresh, .bool s.done, a, b]) := rfl
  obtain ⟨step, phase, fresh, done, vals, mail⟩ := s
  simp only at *
  unfold maxLen at hc2 hd2
  have hmk := fun W => run_make_row' (P := Try.prog) 30 38 (.slice none 0 0) 24 Try.underlying30 infoRow rfl .i64 .i64 n (by omega) (by omega) W
  have LV := Lib.hid hvl; have LM := Lib.hid hml; have LS := Lib.hid (hvs.trans hml)
  clear hvl hml hvs
  go_enter Try.func25, Try.ntmps25
  go_wp2_with fail
  refine (CV.out _ (below_two _ _ _)).mono ?_
  rintro e w1 ⟨v1, rfl, hown1, hne1, hb1⟩
  have sb := ((Bk.new w 32 #[.int .i64 step, .int .i64 phase, .bool fresh, .bool done, .slice (some ⟨b, o, none⟩) n c, .slice (some ⟨b2, o2, none⟩) n c2]).alloc (.cells #[.int .i64 0, .int .i64 0, .bool false, .bool false, .slice none 0 0, .slice none 0 0] 32)).old hb1
  have rb := (cellr w (.cells #[.int .i64 step, .int .i64 phase, .bool fresh, .bool done, .slice (some ⟨b, o, none⟩) n c, .slice (some ⟨b2, o2, none⟩) n c2] 32) #[.int .i64 0, .int .i64 0, .bool false, .bool false, .slice none 0 0, .slice none 0 0] 32).old hb1
  have hv1 : ∃ A1 c1, v1 = .slice A1 n c1 := by
    rcases hown1.2 with ⟨_, h0⟩ | ⟨_, _, _, rfl, _⟩
    · omega
    · exact ⟨_, _, rfl⟩
  obtain ⟨A1, c1, rfl⟩ := hv1
  have HB1 := Lib.hid ((below_two w (.cells #[.int .i64 step, .int .i64 phase, .bool fresh, .bool done, .slice (some ⟨b, o, none⟩) n c, .slice (some ⟨b2, o2, none⟩) n c2] 32) (.cells #[.int .i64 0, .int .i64 0, .bool false, .bool false, .slice none 0 0, .slice none 0 0] 32)).trans (hb1.mono (by simp; omega)))
  have sz1 : w.heap.size + 2 ≤ w1.heap.size := by have := hb1.size; simpa using this
  have sz0 : w.heap.size < w1.heap.size := by omega
  simp only [World.size_alloc] at hown1
  have OWN := Lib.hid (own_set hown1 (show w.heap.size < w.heap.size + 1 + 1 by omega) 4 (.slice A1 n c1))
  have SB := Lib.hid (sb.set 4 (.slice A1 n c1))
  have RB := Lib.hid (rb.far (p := ⟨w.heap.size, 4, none⟩) (by simp) (.slice A1 n c1))
  have HB2 := Lib.hid (HB1.out.setCell (p := ⟨w.heap.size, 4, none⟩) (Nat.le_refl _) (.slice A1 n c1))
  have f4 := sb.froz 4
  have c4 : w1.cell? ⟨w.heap.size, 4, none⟩ = some (.slice (some ⟨b, o, none⟩) n c) := sb.cell 4
  have c5 : w1.cell? ⟨w.heap.size, 5, none⟩ = some (.slice (some ⟨b2, o2, none⟩) n c2) := sb.cell 5
  clear sb rb hb1 hown1 hne1
  go_wp2
  have sz2 : (w1.setCell ⟨w.heap.size, 4, none⟩ (.slice A1 n c1)).heap.size = w1.heap.size := by simp [World.setCell]
  have BL2 : Hid (b2 < w.heap.size) := hbl2
  generalize (w1.setCell ⟨w.heap.size, 4, none⟩ (.slice A1 n c1)) = w2 at *
  clear hmk f4 c4 c5
  have SZ2 := Lib.hid sz2; clear sz2
  have M3 := Bk.new w2 38 (madeCells #[.slice none 0 0] n)
  rw [SZ2.out] at M3
  have e3 : madeCells #[Value.slice none 0 0] n = (List.replicate n (Value.slice none 0 0)).toArray := by
    apply Array.ext'
    rw [toList_madeCells_one]
  rw [e3] at M3 ⊢
  have S3 := SB.out.alloc (.cells (List.replicate n (Value.slice none 0 0)).toArray 38)
  have R3 := RB.out.alloc (.cells (List.replicate n (Value.slice none 0 0)).toArray 38)
  have B3 := HB2.out.alloc (by rw [SZ2.out]; omega) (.cells (List.replicate n (Value.slice none 0 0)).toArray 38)
  have O3 := own_old OWN.out (Below.of_alloc w2 (.cells (List.replicate n (Value.slice none 0 0)).toArray 38))
  have z3 : (w2.alloc (.cells (List.replicate n (Value.slice none 0 0)).toArray 38)).heap.size = w1.heap.size + 1 := by rw [World.size_alloc, SZ2.out]
  have V3 : ∀ g, (Value.slice A1 n c1).ownBlock = some g → g < w1.heap.size := fun g hg => by have := own_lt OWN.out hg; rw [SZ2.out] at this; exact this
  generalize (w2.alloc (.cells (List.replicate n (Value.slice none 0 0)).toArray 38)) = w3 at *
  have E3 := Lib.hid e3; have Z3 := Lib.hid z3; have HO3 := Lib.hid O3; have HV3 := Lib.hid V3; have HB3 := Lib.hid B3
  clear e3 z3 O3 V3 B3
  go_loopw [17] (fun i wr => ∃ (k : Nat) (us : List Value), k ≤ n ∧ i = .int .i64 k ∧ us.length = n ∧ Hid (∀ v ∈ us, NoneV v) ∧ Bk wr w1.heap.size 38 us.toArray ∧ Chg (· = w1.heap.size) w3 wr) (fun i _ => n - (intOf i).toNat)
  case atStart => exact ⟨0, _, Nat.zero_le _, rfl, by simp, fun v hv => by rw [(List.mem_replicate.1 hv).2]; exact ⟨none, 0, rfl, Nat.zero_le _⟩, M3, Chg.refl _ _⟩
  case round =>
    obtain ⟨k, us, hk, rfl, hul, hno, hm, hch⟩ := hrel
    have LU := Lib.hid hul; clear hul
    have hB := hch.size
    rw [Z3.out] at hB
    by_cases hlt : k < n
    · obtain ⟨u, hu, A5, c5, rfl, hc5⟩ := NV.out k hlt
      have ne2 : b2 ≠ w1.heap.size := by have := BL2.out; omega
      have cu : wr.cell? ⟨b2, o2 + k, none⟩ = some (.slice A5 0 c5) := by
        have h1 := HC2.out k _ hu 0 _ rfl
        simp only [Nat.mul_one, Nat.add_zero] at h1
        rw [hch.cell (p := ⟨b2, _, none⟩) (by rw [Z3.out]; have := BL2.out; show b2 < _; omega) ne2, HB3.out.cell (p := ⟨b2, _, none⟩) BL2.out]
        exact h1
      unfold maxLen at hc5
      have CI := Lib.hid (fun W => cloneI_none A5 c5 W)
      have HU := Lib.hid hu
      clear hu
      go_wp2_with fail
      refine (CI.out _).mono ?_
      rintro e w5 ⟨v5, rfl, ⟨A6, c6, rfl, hc6⟩, hb5⟩
      have hm5 := hm.old hb5
      have cm5 : w5.cell? ⟨w1.heap.size, k, none⟩ = some (us[k]'(by rw [LU.out]; exact hlt)) := by rw [hm5.cell]; rw [List.getElem?_toArray]; exact List.getElem?_eq_getElem _
      have fm5 := hm5.froz k
      have C5 := Lib.hid ((hch.add hb5).setCell (p := ⟨w1.heap.size, k, none⟩) rfl (.slice A6 0 c6))
      have M5 := Lib.hid (hm5.set k (.slice A6 0 c6))
      clear hch hb5 hm hm5
      go_wp2
      go_roundw
      case rel => exact ⟨k + 1, us.set k (.slice A6 0 c6), by omega, by go_num, by rw [List.length_set]; exact LU.out, fun v hv => (List.mem_or_eq_of_mem_set hv).elim (fun h => hno.out v h) (fun h => by rw [h]; exact ⟨_, _, rfl, hc6⟩), by have := M5.out; simpa using this, C5.out⟩
      case measure => simp [intOf]; omega
    · obtain rfl : k = n := by omega
      have sb := S3.chg hch (by omega)
      have rb := R3.chg hch (by omega)
      have s0 : wr.cell? ⟨w.heap.size, 0, none⟩ = some (.int .i64 step) := sb.cell 0
      have s1 : wr.cell? ⟨w.heap.size, 1, none⟩ = some (.int .i64 phase) := sb.cell 1
      have s2 : wr.cell? ⟨w.heap.size, 2, none⟩ = some (.bool fresh) := sb.cell 2
      have s3 : wr.cell? ⟨w.heap.size, 3, none⟩ = some (.bool done) := sb.cell 3
      have s4 : wr.cell? ⟨w.heap.size, 4, none⟩ = some (.slice A1 k c1) := sb.cell 4
      have s5 : wr.cell? ⟨w.heap.size, 5, none⟩ = some (.slice (some ⟨b2, o2, none⟩) k c2) := sb.cell 5
      have sf5 := sb.froz 5
      have r0 : wr.cell? ⟨w.heap.size + 1, 0, none⟩ = some (.int .i64 0) := rb.cell 0
      have r1 : wr.cell? ⟨w.heap.size + 1, 1, none⟩ = some (.int .i64 0) := rb.cell 1
      have r2 : wr.cell? ⟨w.heap.size + 1, 2, none⟩ = some (.bool false) := rb.cell 2
      have r3 : wr.cell? ⟨w.heap.size + 1, 3, none⟩ = some (.bool false) := rb.cell 3
      have r4 : wr.cell? ⟨w.heap.size + 1, 4, none⟩ = some (.slice none 0 0) := rb.cell 4
      have r5 : wr.cell? ⟨w.heap.size + 1, 5, none⟩ = some (.slice none 0 0) := rb.cell 5
      have f0 := rb.froz 0
      have f1 := rb.froz 1
      have f2 := rb.froz 2
      have f3 := rb.froz 3
      have f4 := rb.froz 4
      have f5 := rb.froz 5
      have RE := Lib.hid (rb.far (p := ⟨w.heap.size, 5, none⟩) (by simp) (.slice (some ⟨w1.heap.size, 0, none⟩) k k))
      have MX := Lib.hid (hm.far (p := ⟨w.heap.size, 5, none⟩) (by simp; omega) (.slice (some ⟨w1.heap.size, 0, none⟩) k k))
      have OW := Lib.hid (own_set (own_chg HO3.out hch (fun g hg => by have := HV3.out g hg; omega)) (show w.heap.size < w.heap.size + 1 + 1 by omega) 5 (.slice (some ⟨w1.heap.size, 0, none⟩) k k))
      have BB := Lib.hid ((HB3.out.trans (hch.below (B := w.heap.size) (by rw [Z3.out]; omega) (fun g hg => by omega))).setCell (p := ⟨w.heap.size, 5, none⟩) (Nat.le_refl _) (.slice (some ⟨w1.heap.size, 0, none⟩) k k))
      clear sb rb hm hch
      go_wp2
      generalize (wr.setCell ⟨w.heap.size, 5, none⟩ (.slice (some ⟨w1.heap.size, 0, none⟩) k k)) = W9 at *
      change bodyPost _ _ _ _ _ (put6 W9 (w.heap.size + 1) (.int .i64 step) (.int .i64 phase) (.bool fresh) (.bool done) (.slice A1 k c1) (.slice (some ⟨w1.heap.size, 0, none⟩) k k))
      have P := put6_bk RE.out (.int .i64 step) (.int .i64 phase) (.bool fresh) (.bool done) (.slice A1 k c1) (.slice (some ⟨w1.heap.size, 0, none⟩) k k)
      have d0 := P.cell 0
      have d1 := P.cell 1
      have d2 := P.cell 2
      have d3 := P.cell 3
      have d4 := P.cell 4
      have d5 := P.cell 5
      simp only [List.getElem?_toArray] at d0 d1 d2 d3 d4 d5
      refine bodyPost_ret (v := .agg #[.int .i64 step, .int .i64 phase, .bool fresh, .bool done, .slice A1 k c1, .slice (some ⟨w1.heap.size, 0, none⟩) k k]) ?_ rfl ⟨_, _, rfl, fun W hW hk => ⟨?_, ?_⟩, put6_below BB.out (by omega) _ _ _ _ _ _⟩
      · simp [results, Try.f25, go_sem, d0, d1, d2, d3, d4, d5]
      · refine Sl.of_own (base := w.heap.size + 1 + 1) (e := 40) (fun _ => rfl) ?_
        rw [LV.out]
        exact own_from (put6_own OW.out (by omega) _ _ _ _ _ _) (by omega) hk
      · exact mx_none (Bk.from (put6_far MX.out (by omega) _ _ _ _ _ _) (by omega) hk) LU.out (by unfold maxLen; omega) hno.out LM.out EMP.out
end Go.Proofs.Ytbholafggbdieaa
