/- paths.Weak: what it answers of a graph that is good. -/
import Derived.Test.YtbholafggbdieaaWeakRoot
import Derived.Test.YtbholafggbdieaaMailRows
namespace Go.Proofs.Ytbholafggbdieaa
open Go.RowKit

theorem made_upV (n : Nat) : madeCells #[.int .i64 0] n = upV (List.replicate n 0) := by
  refine Array.ext_getElem? fun i => ?_
  by_cases h : i < n
  · rw [upV_at (by simpa using h)]
    simp [madeCells, h, Nat.mod_one, upAt]
  · rw [Array.getElem?_eq_none (by simp [madeCells]; omega), Array.getElem?_eq_none (by simp [upV]; omega)]
/-- The first k are roots of their own. -/
def selfG (n k : Nat) : List Nat := List.range k ++ List.replicate (n - k) 0
theorem selfG_zero (n : Nat) : selfG n 0 = List.replicate n 0 := by simp [selfG]
theorem selfG_all (n : Nat) : selfG n n = List.range n := by simp [selfG]
theorem selfG_set {n k : Nat} (h : k < n) : (selfG n k).set k k = selfG n (k + 1) := by
  unfold selfG
  rw [List.set_append_right _ _ (by simp), List.range_succ, List.append_assoc]
  congr 1
  simp only [List.length_range, Nat.sub_self]
  obtain ⟨m, hm⟩ : ∃ m, n - k = m + 1 := ⟨n - k - 1, by omega⟩
  rw [hm, show n - (k + 1) = m by omega]
  rfl
theorem selfG_len {n k : Nat} (h : k ≤ n) : (selfG n k).length = n := by simp [selfG]; omega
/-- The first k are the roots themselves. -/
def flatG (up : List Nat) (k : Nat) : List Nat := (List.range k).map (rootG up) ++ up.drop k
theorem flatG_zero (up : List Nat) : flatG up 0 = up := by simp [flatG]
theorem flatG_len {up : List Nat} {k : Nat} (h : k ≤ up.length) : (flatG up k).length = up.length := by simp [flatG]; omega
theorem flatG_set {up : List Nat} {k : Nat} (h : k < up.length) : (flatG up k).set k (rootG up k) = flatG up (k + 1) := by
  unfold flatG
  rw [List.set_append_right _ _ (by simp), List.range_succ, List.map_append, List.append_assoc]
  congr 1
  simp only [List.length_map, List.length_range, Nat.sub_self]
  rw [List.drop_eq_getElem_cons h]
  rfl
theorem flatG_ok {up : List Nat} (hw : WfUp up) : ∀ k, k ≤ up.length → WfUp (flatG up k) ∧ ∀ u, rootG (flatG up k) u = rootG up u
  | 0, _ => by rw [flatG_zero]; exact ⟨hw, fun _ => rfl⟩
  | k + 1, hk => by
    obtain ⟨h1, h2⟩ := flatG_ok hw k (by omega)
    obtain ⟨g1, g2⟩ := set_root h1 (v := k) (by rw [flatG_len (by omega)]; omega)
    rw [h2 k, flatG_set (by omega)] at g1 g2
    exact ⟨g1, fun u => (g2 u).trans (h2 u)⟩
theorem flatG_all {up : List Nat} : flatG up up.length = (List.range up.length).map (rootG up) := by simp [flatG]

def WeakR (l : List Int) (w : World) (e : Ending) (w' : World) : Prop := ∃ v, e = .returned (.tuple #[v, .int .i64 0]) ∧ Sl 1 encN w' w'.heap.size v l ∧ Below w.heap.size w w'
theorem sl_upV {w : World} {G n : Nat} {up : List Nat} (h : Bk w G 3 (upV up)) (hl : up.length = n) (hn : n ≤ maxLen) : Sl 1 encN w w.heap.size (.slice (some ⟨G, 0, none⟩) n n) (up.map fun x => ((x : Nat) : Int)) := by
  refine ⟨some ⟨G, 0, none⟩, n, by rw [List.length_map, hl], by rw [List.length_map, hl]; exact Nat.le_refl _, hn, fun _ => ⟨G, 0, rfl, h.lt, fun i x hx j u hu => ?_⟩⟩
  match j, hu with
  | 0, hu =>
    have hu' : Value.int .i64 x = u := by simpa [encN] using hu
    subst hu'
    rw [List.getElem?_map] at hx
    obtain ⟨y, hy, rfl⟩ := Option.map_eq_some_iff.1 hx
    have hi : i < up.length := (List.getElem?_eq_some_iff.1 hy).1
    rw [h.cell, Nat.zero_add, Nat.mul_one, Nat.add_zero, upV_at hi]
    unfold upAt; rw [hy]; rfl
  | j + 1, hu => simp [encN] at hu

set_option maxRecDepth 10000 in
set_option maxHeartbeats 2000000 in
theorem weak_any (n : Nat) (es : List Ed) (ev : Value) (w : World) (hn0 : 1 ≤ n) (hg : checkG (n : Int) es = 0) (he : Sl 3 encE w w.heap.size ev es) :
    Calls Try.prog 20 #[.agg #[.int .i64 n, ev]] w (WeakR (weakG n es) w) := by
  have CK := Lib.hid (fun W (hb : Below w.heap.size w W) => check_in n es ev w W he hb)
  obtain ⟨hz0, hn1, hl6, hall⟩ := checkG_zero hg
  have GE : ∀ e ∈ es, 0 ≤ e.f ∧ e.f < (n : Int) ∧ 0 ≤ e.t ∧ e.t < (n : Int) := by
    intro e h
    have := hall e h
    simp only [goodE, insB, Bool.and_eq_true, decide_eq_true_eq] at this
    omega
  have UT := Lib.hid (uinv_take GE)
  have HGE := Lib.hid GE
  rw [hg] at CK
  have hmk := fun W => run_make_row' (P := Try.prog) 38 3 (.int .i64 0) 8 Try.underlying38 infoMail rfl .i64 .i64 n (by omega) (by omega) W
  obtain ⟨A, c, rfl, hc1, hc2, hA⟩ := he
  have HA := Lib.hid hA
  unfold maxLen at hc2
  have HES := Lib.hid (show ∀ W, Below w.heap.size w W → Sl 3 encE W W.heap.size (.slice A es.length c) es from fun W hb => (show Sl 3 encE w w.heap.size (.slice A es.length c) es from ⟨A, c, rfl, hc1, hc2, hA⟩).old hb)
  clear hg hall GE hA
  go_enter Try.func20, Try.ntmps20
  go_wp2_with fail
  refine (CK.out _ (Below.of_alloc _ _)).mono ?_
  rintro e w1 ⟨rfl, hb1⟩
  have gb := (Bk.new w 25 #[.int .i64 n, .slice A es.length c]).old hb1
  have HB1 := Lib.hid ((Below.of_alloc w (.cells #[.int .i64 n, .slice A es.length c] 25)).trans (hb1.mono (by simp)))
  have g0 : w1.cell? ⟨w.heap.size, 0, none⟩ = some (.int .i64 n) := gb.cell 0
  have GB := Lib.hid gb
  clear hb1 gb
  go_wp2_with fail
  clear hmk g0
  rw [made_upV, ← selfG_zero]
  have G1 := (Bk.new w1 3 (upV (selfG n 0))).alloc (.cells #[.slice (some ⟨w1.heap.size, 0, none⟩) n n] 38)
  have P1 := cellr w1 (.cells (upV (selfG n 0)) 3) #[.slice (some ⟨w1.heap.size, 0, none⟩) n n] 38
  have B1 := Lib.hid (HB1.out.trans ((below_two w1 (.cells (upV (selfG n 0)) 3) (.cells #[.slice (some ⟨w1.heap.size, 0, none⟩) n n] 38)).mono HB1.out.size))
  have GR1 := Lib.hid (GB.out.old (below_two w1 (.cells (upV (selfG n 0)) 3) (.cells #[.slice (some ⟨w1.heap.size, 0, none⟩) n n] 38)))
  have hS1 := HB1.out.size
  have hGlt := GB.out.lt
  go_loopw [23] (fun i wr => ∃ k : Nat, k ≤ n ∧ i = .int .i64 k ∧ Bk wr w1.heap.size 3 (upV (selfG n k)) ∧ Bk wr (w1.heap.size + 1) 38 #[.slice (some ⟨w1.heap.size, 0, none⟩) n n] ∧ Bk wr w.heap.size 25 #[.int .i64 n, .slice A es.length c] ∧ Below w.heap.size w wr) (fun i _ => n - (intOf i).toNat)
  case atStart => exact ⟨0, Nat.zero_le _, rfl, G1, P1, GR1.out, B1.out⟩
  case round =>
    clear G1 P1 B1 GR1
    obtain ⟨k, hk, rfl, hgk, hpk, hgr, hbel⟩ := hrel
    by_cases hlt : k < n
    · have p0 : wr.cell? ⟨w1.heap.size + 1, 0, none⟩ = some (.slice (some ⟨w1.heap.size, 0, none⟩) n n) := hpk.cell 0
      have f0 := hgk.froz k
      have c0 : wr.cell? ⟨w1.heap.size, k, none⟩ = some (.int .i64 (upAt (selfG n k) k : Nat)) := by rw [hgk.cell, upV_at (by rw [selfG_len hk]; exact hlt)]
      have N1 := hgk.set k (.int .i64 (k : Int))
      rw [upV_set, selfG_set hlt] at N1
      have N2 := hpk.far (p := ⟨w1.heap.size, k, none⟩) (by simp) (.int .i64 (k : Int))
      have N3 := hgr.far (p := ⟨w1.heap.size, k, none⟩) (by simp only; omega) (.int .i64 (k : Int))
      have N4 := hbel.setCell (p := ⟨w1.heap.size, k, none⟩) (by simp only; omega) (.int .i64 (k : Int))
      have H1 := Lib.hid N1; have H2 := Lib.hid N2; have H3 := Lib.hid N3; have H4 := Lib.hid N4
      clear N1 N2 N3 N4 hgk hpk hgr hbel
      go_wp2
      go_roundw
      case rel => exact ⟨k + 1, by omega, by go_num, H1.out, H2.out, H3.out, H4.out⟩
      case measure => simp [intOf]; omega
    · obtain rfl : k = n := by omega
      rw [selfG_all] at hgk
      have g1 : wr.cell? ⟨w.heap.size, 1, none⟩ = some (.slice A es.length c) := hgr.cell 1
      have H1 := Lib.hid hgk; have H2 := Lib.hid hpk; have H3 := Lib.hid hgr; have H4 := Lib.hid hbel
      clear hgk hpk hgr hbel
      go_wp2_with fail
      clear g1
      generalize hW2 : wr = W2 at *
      clear hW2
      have B2s := H4.out.size
      go_loopw [35] (fun i wr => ∃ q : Nat, q ≤ es.length ∧ i = .int .i64 q ∧ Bk wr w1.heap.size 3 (upV (upG k (es.take q))) ∧ Bk wr (w1.heap.size + 1) 38 #[.slice (some ⟨w1.heap.size, 0, none⟩) k k] ∧ Below w.heap.size w wr) (fun i _ => es.length - (intOf i).toNat)
      case atStart => exact ⟨0, Nat.zero_le _, rfl, H1.out, H2.out, H4.out⟩
      case round =>
        clear H1 H2 H3 H4
        obtain ⟨q, hq, rfl, hgk, hpk, hbel⟩ := hrel
        have Sr := hbel.size
        have UI := UT.out q hq
        by_cases hlq : q < es.length
        · obtain ⟨b, o, rfl, hbb, hc⟩ := HA.out (by omega)
          obtain ⟨e, hee⟩ : ∃ e, es[q]? = some e := ⟨_, List.getElem?_eq_getElem hlq⟩
          obtain ⟨f0, f1, t0, t1⟩ := HGE.out e (List.mem_of_getElem? hee)
          have UN := upG_take k hee
          have UI2 := UT.out (q + 1) (by omega)
          obtain ⟨ef, et, eg⟩ := e
          simp only at f0 f1 t0 t1 UN
          obtain ⟨fn, rfl⟩ : ∃ fn : Nat, ef = (fn : Int) := ⟨ef.toNat, by omega⟩
          obtain ⟨tn, rfl⟩ : ∃ tn : Nat, et = (tn : Int) := ⟨et.toNat, by omega⟩
          simp only [Int.toNat_natCast] at UN
          have e0 : wr.cell? ⟨b, o + q * 3, none⟩ = some (.int .i64 (fn : Int)) := (hbel.cell (p := ⟨b, o + q * 3, none⟩) hbb).trans (hc q _ hee 0 _ rfl)
          have e1 : wr.cell? ⟨b, o + q * 3 + 1, none⟩ = some (.int .i64 (tn : Int)) := (hbel.cell (p := ⟨b, o + q * 3 + 1, none⟩) hbb).trans (hc q _ hee 1 _ rfl)
          have e2 : wr.cell? ⟨b, o + q * 3 + 2, none⟩ = some (.int .i64 eg) := (hbel.cell (p := ⟨b, o + q * 3 + 2, none⟩) hbb).trans (hc q _ hee 2 _ rfl)
          generalize hup : upG k (es.take q) = up at *
          have len := UI.len; have wf := UI.wf
          have hr1 := (rootG_le wf fn).1
          have hr2 := (rootG_le wf tn).1
          have WB : Below wr.heap.size wr (wr.alloc (.cells #[.int .i64 (fn : Int), .int .i64 (tn : Int), .int .i64 eg] 46)) := Below.of_alloc _ _
          have E9 := Bk.new wr 46 #[.int .i64 (fn : Int), .int .i64 (tn : Int), .int .i64 eg]
          have G9 := hgk.old WB
          have P9 := hpk.old WB
          have B9 := hbel.trans (WB.mono Sr)
          have HE := Lib.hid hee; have HUP := Lib.hid hup; have HWF := Lib.hid wf; have HLEN := Lib.hid len
          clear hgk hpk hc UI hee hup wf len WB
          go_wp2_with fail
          clear e0 e1 e2
          generalize (wr.alloc (.cells #[.int .i64 (fn : Int), .int .i64 (tn : Int), .int .i64 eg] 46)) = W9 at *
          have RT := Lib.hid (fun (v : Nat) (hv : v < k) (W : World) (hW : W.heap = W9.heap) => wroot_any up v k (w1.heap.size + 1) w1.heap.size k W HWF.out HLEN.out hv (by have h := P9.cell 0; unfold World.cell? at h ⊢; rw [hW]; exact h) (by have h := G9; unfold Bk at h ⊢; rw [hW]; exact h))
          have E0 := Lib.hid (E9.cell 0); have E1 := Lib.hid (E9.cell 1)
          have e0 : W9.cell? ⟨wr.heap.size, 0, none⟩ = some (.int .i64 (fn : Int)) := E9.cell 0
          have e1 : W9.cell? ⟨wr.heap.size, 1, none⟩ = some (.int .i64 (tn : Int)) := E9.cell 1
          go_quiet ((go_at_call 36; exact Calls.quiet_of_same (RT.out _ (by omega) _ rfl)))
          generalize hra : rootG up fn = ra at *
          generalize hrb : rootG up tn = rb at *
          have HRA := Lib.hid hra; have HRB := Lib.hid hrb
          clear hra hrb e0 e1 RT
          have HRT : Hid (uniG up fn tn = up.set (max ra rb) (min ra rb)) := by unfold Hid uniG; rw [HRA.out, HRB.out]
          have mlt : max ra rb < k := by omega
          have P10 := P9.drewN nq; have G10 := G9.drewN nq; have B10 := below_drewN B9 nq
          have S10 : (W9.drewN nq).heap.size = W9.heap.size := rfl
          clear P9 G9 B9 E9 E0 E1
          generalize W9.drewN nq = W10 at *
          have p0 : W10.cell? ⟨w1.heap.size + 1, 0, none⟩ = some (.slice (some ⟨w1.heap.size, 0, none⟩) k k) := P10.cell 0
          have c0 : W10.cell? ⟨w1.heap.size, max ra rb, none⟩ = some (.int .i64 (upAt up (max ra rb) : Nat)) := by rw [G10.cell, upV_at (by rw [HLEN.out]; exact mlt)]
          have f0 := G10.froz (max ra rb)
          have mx : max (ra : Int) (rb : Int) = ((max ra rb : Nat) : Int) := by omega
          have mn : min (ra : Int) (rb : Int) = ((min ra rb : Nat) : Int) := by omega
          have N1 := G10.set (max ra rb) (.int .i64 ((min ra rb : Nat) : Int))
          rw [upV_set, ← HRT.out, ← UN] at N1
          have H1 := Lib.hid N1
          have H2 := Lib.hid (P10.far (p := ⟨w1.heap.size, max ra rb, none⟩) (by simp) (.int .i64 ((min ra rb : Nat) : Int)))
          have H3 := Lib.hid (B10.setCell (p := ⟨w1.heap.size, max ra rb, none⟩) (by simp only; omega) (.int .i64 ((min ra rb : Nat) : Int)))
          clear N1 P10 G10 B10 S10 UN UI2
          generalize min ra rb = mi at *
          generalize max ra rb = ma at *
          go_wp2
          go_roundw
          case rel => exact ⟨q + 1, by omega, by go_num, H1.out, H2.out, H3.out⟩
          case measure => simp [intOf]; omega
        · obtain rfl : q = es.length := by omega
          rw [List.take_length] at hgk UI
          have len := UI.len; have wf := UI.wf
          have H1 := Lib.hid hgk; have H2 := Lib.hid hpk; have H4 := Lib.hid hbel
          have p0 : wr.cell? ⟨w1.heap.size + 1, 0, none⟩ = some (.slice (some ⟨w1.heap.size, 0, none⟩) k k) := hpk.cell 0
          have FL := Lib.hid (flatG_ok wf)
          have HWE : Hid (weakG k es = ((List.range k).map (rootG (upG k es))).map (fun x => ((x : Nat) : Int))) := by unfold Hid weakG; rw [List.map_map]; rfl
          generalize upG k es = up at *
          have HLEN := Lib.hid len
          clear hgk hpk hbel UI len wf
          go_wp2_with fail
          clear p0
          generalize hW3 : wr = W3 at *
          clear hW3
          go_loopw [58] (fun i wr => ∃ q : Nat, q ≤ k ∧ i = .int .i64 q ∧ Bk wr w1.heap.size 3 (upV (flatG up q)) ∧ Bk wr (w1.heap.size + 1) 38 #[.slice (some ⟨w1.heap.size, 0, none⟩) k k] ∧ Below w.heap.size w wr) (fun i _ => k - (intOf i).toNat)
          case atStart => exact ⟨0, Nat.zero_le _, rfl, by rw [flatG_zero]; exact H1.out, H2.out, H4.out⟩
          case round =>
            clear H1 H2 H4
            obtain ⟨q, hq, rfl, hgk, hpk, hbel⟩ := hrel
            obtain ⟨wf, rt⟩ := FL.out q (by rw [HLEN.out]; exact hq)
            have fl : (flatG up q).length = k := by rw [flatG_len (by rw [HLEN.out]; exact hq), HLEN.out]
            have Sr := hbel.size
            by_cases hlq : q < k
            · have FS := flatG_set (up := up) (k := q) (by rw [HLEN.out]; exact hlq)
              have p0 : wr.cell? ⟨w1.heap.size + 1, 0, none⟩ = some (.slice (some ⟨w1.heap.size, 0, none⟩) k k) := hpk.cell 0
              have c0 : wr.cell? ⟨w1.heap.size, q, none⟩ = some (.int .i64 (upAt (flatG up q) q : Nat)) := by rw [hgk.cell, upV_at (by rw [fl]; exact hlq)]
              have f0 := hgk.froz q
              have RT := Lib.hid (fun (W : World) (hW : W.heap = wr.heap) => wroot_any (flatG up q) q k (w1.heap.size + 1) w1.heap.size k W wf fl hlq (by have h := hpk.cell 0; unfold World.cell? at h ⊢; rw [hW]; exact h) (by have h := hgk; unfold Bk at h ⊢; rw [hW]; exact h))
              rw [rt] at RT
              have H1 := Lib.hid hgk; have H2 := Lib.hid hpk; have H4 := Lib.hid hbel; have HFS := Lib.hid FS
              generalize rootG up q = rq at *
              clear hgk hpk hbel wf rt fl FS
              go_wp2_with fail
              refine wp_region_zs (fun W => W.cell? ⟨w1.heap.size + 1, 0, none⟩ = some (.slice (some ⟨w1.heap.size, 0, none⟩) k k) ∧ W.heap = wr.heap) [6] (by kernel_rfl) ?_
              refine wpZ_batch (is := [0, 1, 2, 3]) (by kernel_rfl) ⟨p0, rfl⟩ (a1 := ?_) ?_ ?_
              rotate_left
              · repeat
                  (refine SeqY.run (v := ?_) rfl (by rfl) ?_ ?_
                   rotate_left
                   · (intro W hS; (try dsimp only at hS); go_simp; (try with_reducible rfl)))
                exact SeqY.nil
              refine wpZ_one (i := 4) (by kernel_rfl) rfl (fun K hK => ?_)
              go_simp
              refine (RT.out wr.drew rfl).mono ?_
              rintro e w2 ⟨rfl, rfl⟩
              refine hK.out _ _ ⟨p0, rfl⟩ (fun hS2 => ?_)
              clear hK K
              refine wpZ_batch (is := [5]) (by kernel_rfl) hS2 (a1 := ?_) ?_ ?_
              rotate_left
              · repeat
                  (refine SeqY.run (v := ?_) rfl (by rfl) ?_ ?_
                   rotate_left
                   · (intro W hS; (try dsimp only at hS); go_simp; (try with_reducible rfl)))
                exact SeqY.nil
              clear hS2
              refine wpZ_end (i := 6) (by kernel_rfl) rfl (fun K hK => ?_)
              go_simp
              refine hK.out _ _ ?_
              clear hK K
              refine wpZ_done (by kernel_rfl) ?_
              have N1 := (H1.out.drew).set q (.int .i64 ((rq : Nat) : Int))
              rw [upV_set, HFS.out] at N1
              have K1 := Lib.hid N1
              have K2 := Lib.hid ((H2.out.drew).far (p := ⟨w1.heap.size, q, none⟩) (by simp) (.int .i64 (rq : Int)))
              have K4 := Lib.hid ((H4.out.drew).setCell (p := ⟨w1.heap.size, q, none⟩) (by simp only; omega) (.int .i64 (rq : Int)))
              clear N1 p0 c0 f0 RT
              go_wp2
              go_roundw
              case rel => exact ⟨q + 1, by omega, by go_num, K1.out, K2.out, K4.out⟩
              case measure => simp [intOf]; omega
            · obtain rfl : q = k := by omega
              have p0 : wr.cell? ⟨w1.heap.size + 1, 0, none⟩ = some (.slice (some ⟨w1.heap.size, 0, none⟩) q q) := hpk.cell 0
              have SLV := Lib.hid (sl_upV hgk fl (by unfold maxLen; omega))
              have EW : Hid ((flatG up q).map (fun x => ((x : Nat) : Int)) = weakG q es) := by
                unfold Hid; rw [HWE.out, ← HLEN.out, flatG_all]
              have H4 := Lib.hid hbel
              clear hgk hpk hbel wf rt fl
              go_wp2_with fail
              go_ret2
              exact ⟨_, rfl, by rw [← EW.out]; exact SLV.out, H4.out⟩
end Go.Proofs.Ytbholafggbdieaa
