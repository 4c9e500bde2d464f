/- paths.Dist: what it answers of a graph that is good. -/
import Derived.Test.YtbholafggbdieaaDistLaw
namespace Go.Proofs.Ytbholafggbdieaa
open Go.RowKit

/-- How many are done. -/
def cntF (far : List Int) : Nat := far.countP (fun x => decide (x ≠ -1))
theorem cntF_set {far : List Int} {v : Nat} {x : Int} (hv : v < far.length) (hd : fa far v = -1) (hx : x ≠ -1) : cntF (far.set v x) = cntF far + 1 := by
  unfold cntF
  have h' : far[v] = -1 := by unfold fa at hd; rw [List.getElem?_eq_getElem hv] at hd; exact hd
  have := List.countP_set (p := fun x : Int => decide (x ≠ -1)) (l := far) (i := v) (a := x) hv
  rw [this, h']
  simp [hx]
theorem cntF_le (far : List Int) : cntF far ≤ far.length := List.countP_le_length
/-- How far it may be at most. -/
structure DjB (far : List Int) (q : List Sp) (cur : Option (Nat × Nat)) : Prop where
  ent : ∀ x ∈ q, x.f ≤ 1099511627776 * (cntF far : Int)
  curs : ∀ u k, cur = some (u, k) → fa far u + 1099511627776 ≤ 1099511627776 * (cntF far : Int)
theorem djb_skip {far : List Int} {q q' : List Sp} {x : Sp} (h : DjB far q none) (hp : q.Perm (x :: q')) : DjB far q' none :=
  ⟨fun y hy => h.ent y (hp.mem_iff.2 (List.mem_cons_of_mem _ hy)), fun u k e => by cases e⟩
theorem djb_new {far : List Int} {q q' : List Sp} {x : Sp} {v : Nat} (h : DjB far q none) (hp : q.Perm (x :: q')) (hv : v < far.length) (hd : fa far v = -1) (h0 : 0 ≤ x.f) : DjB (far.set v x.f) q' (some (v, 0)) := by
  have hc := cntF_set (x := x.f) hv hd (by omega)
  refine ⟨fun y hy => ?_, fun u k e => ?_⟩
  · have := h.ent y (hp.mem_iff.2 (List.mem_cons_of_mem _ hy)); rw [hc]; push_cast; omega
  · cases e
    have := h.ent x (hp.mem_iff.2 (List.mem_cons_self ..))
    rw [fa_set hv, if_pos rfl, hc]; push_cast; omega
theorem djb_push {far : List Int} {q q' : List Sp} {u i : Nat} {y : Sp} (h : DjB far q (some (u, i))) (hp : q'.Perm (y :: q)) (hy : y.f ≤ fa far u + 1099511627776) : DjB far q' (some (u, i + 1)) := by
  have hc := h.curs u i rfl
  refine ⟨fun x hx => ?_, fun x k e => by cases e; exact hc⟩
  rcases List.mem_cons.1 (hp.mem_iff.1 hx) with rfl | hx
  · omega
  · exact h.ent x hx
theorem djb_done {far : List Int} {q : List Sp} {u i : Nat} (h : DjB far q (some (u, i))) : DjB far q none := ⟨h.ent, fun u k e => by cases e⟩
/-- Numbers read off the world. -/
def farW (w : World) (F : Nat) : List Int := match w.heap[F]? with
  | some (.cells cs _ _) => cs.toList.map intOf
  | _ => []
theorem farW_of {w : World} {F : Nat} {far : List Int} (h : Bk w F 3 (intV far)) : farW w F = far := by
  unfold farW
  unfold Bk at h
  rw [h]
  simp only [intV, List.map_map]
  exact List.map_id'' (fun _ => rfl) far
def qW (w : World) (P : Nat) : Nat := match w.cell? ⟨P, 0, none⟩ with
  | some v => lenV v
  | none => 0
theorem qW_of {w : World} {P : Nat} {v : Value} {q : List Sp} (h : SpM w P v q) : qW w P = q.length := by
  unfold qW
  rw [show w.cell? ⟨P, 0, none⟩ = some v from h.1.cell 0]
  exact own_lenV h.2
/-- A vertex's row of hops, in whatever world comes of this one while block F alone changes. -/
theorem hops_row {F base k vx : Nat} {w4 : World} {nv : Value} {es : List Ed} {far0 : List Int} (M : ∀ W', Chg (fun b => b < base) w4 W' → HopsM W' W'.heap.size nv k es) (hF : F < base) (hv : vx < k) (hb : Bk w4 F 3 (intV far0)) :
    ∃ b o cN AR cR, nv = .slice (some ⟨b, o, none⟩) k cN ∧ k ≤ cN ∧ cN ≤ maxLen ∧ (hopsV es vx).length ≤ cR ∧ cR ≤ maxLen ∧ ∀ W, Chg (· = F) w4 W → W.cell? ⟨b, o + vx, none⟩ = some (.slice AR (hopsV es vx).length cR) ∧
      ∀ (i : Nat) h, (hopsV es vx)[i]? = some h → ∃ br orr, AR = some ⟨br, orr, none⟩ ∧ W.cell? ⟨br, orr + i * 2, none⟩ = some (.int .i64 h.t) ∧ W.cell? ⟨br, orr + i * 2 + 1, none⟩ = some (.int .i64 h.g) := by
  have lk : (hopsG k es).length = k := by simp [hopsG]
  obtain ⟨b, o, cN, ru, e, n1, n2, hbl, hru, hrow⟩ := (M w4 (Chg.refl _ _)).at_ (hopsG_at es hv)
  rw [lk] at e n1
  obtain ⟨AR, cR, rfl, r1, r2, _⟩ := hrow
  have hbF : b ≠ F := by
    intro e'
    subst e'
    rw [hb.cell] at hru
    unfold intV at hru
    rw [List.getElem?_toArray, List.getElem?_map] at hru
    cases hx : far0[o + vx]? with
    | none => rw [hx] at hru; cases hru
    | some y => rw [hx] at hru; cases hru
  refine ⟨b, o, cN, AR, cR, e, n1, n2, r1, r2, fun W hc => ?_⟩
  have hcell : W.cell? ⟨b, o + vx, none⟩ = some (.slice AR (hopsV es vx).length cR) := (hc.cell (p := ⟨b, o + vx, none⟩) hbl hbF).trans hru
  refine ⟨hcell, fun i h hh => ?_⟩
  obtain ⟨b', o', c', ru', e', _, _, _, hru', hrow'⟩ := (M W (hc.mono (fun x _ hx => by omega))).at_ (hopsG_at es hv)
  rw [e, lk] at e'
  injection e' with e1 _ _
  injection e1 with e1
  injection e1 with e1 e2
  subst e1 e2
  rw [hcell] at hru'
  injection hru' with hru'
  subst hru'
  obtain ⟨A2, c2, e2, _, _, hA2⟩ := hrow'
  injection e2 with e2 _ _
  subst e2
  obtain ⟨br, orr, eA, _, hcc⟩ := hA2 (by have := (List.getElem?_eq_some_iff.1 hh).1; omega)
  exact ⟨br, orr, eA, hcc i h hh 0 _ rfl, hcc i h hh 1 _ rfl⟩
def DistR (es : List Ed) (n s : Nat) (w : World) (e : Ending) (w' : World) : Prop := ∃ v far, e = .returned (.tuple #[v, .int .i64 0]) ∧ Sl 1 encN w' w'.heap.size v far ∧ DsE es n s far ∧ Below w.heap.size w w'

set_option maxRecDepth 10000 in
set_option maxHeartbeats 4000000 in
theorem dist_any (n s : Nat) (es : List Ed) (ev : Value) (w : World) (hs : s < n) (hn : n ≤ 100) (hg : checkG (n : Int) es = 0) (he : Sl 3 encE w w.heap.size ev es) :
    Calls Try.prog 22 #[.agg #[.int .i64 n, ev], .int .i64 s] w (DistR es n s w) := by
  have CK := Lib.hid (fun W (hb : Below w.heap.size w W) => check_in n es ev w W he hb)
  obtain ⟨hz0, hn1, hl6, hall⟩ := checkG_zero hg
  have GE : ∀ e ∈ es, 0 ≤ e.f ∧ e.f < (n : Int) ∧ 0 ≤ e.t ∧ e.t < (n : Int) := by
    intro e h
    have := hall e h
    simp only [goodE, insB, Bool.and_eq_true, decide_eq_true_eq] at this
    omega
  have GW : ∀ e ∈ es, 0 ≤ e.g ∧ e.g ≤ 1099511627776 := by
    intro e h
    have := hall e h
    simp only [goodE, insB, Bool.and_eq_true, decide_eq_true_eq] at this
    omega
  have HGE := Lib.hid GE; have HGW := Lib.hid GW
  rw [hg] at CK
  have hmk := fun W => run_make_row' (P := Try.prog) 38 3 (.int .i64 0) 8 Try.underlying38 infoMail rfl .i64 .i64 n (by omega) (by omega) W
  have HE := Lib.hid he
  obtain ⟨A, c, rfl, hc1, hc2, hA⟩ := id he
  unfold maxLen at hc2
  have ts1 : decide ((s : Int) < 0) = false := decide_eq_false (by omega)
  have ts2 : decide ((n : Int) ≤ (s : Int)) = false := decide_eq_false (by omega)
  clear hg hall GE GW he hA
  go_enter Try.func22, Try.ntmps22
  go_wp2_with fail
  refine (CK.out _ (Below.of_alloc _ _)).mono ?_
  rintro e w1 ⟨rfl, hb1⟩
  have gb := (Bk.new w 25 #[.int .i64 n, .slice A es.length c]).old hb1
  have HB1 := Lib.hid ((Below.of_alloc w (.cells #[.int .i64 n, .slice A es.length c] 25)).trans (hb1.mono (by simp)))
  have g0 : w1.cell? ⟨w.heap.size, 0, none⟩ = some (.int .i64 n) := gb.cell 0
  have GB := Lib.hid gb
  have hgl := gb.lt
  clear hb1 gb
  go_wp2_with fail
  clear hmk g0 ts1 ts2
  rw [made_intV]
  have F1 := Bk.new w1 3 (intV (noneG n 0))
  have B1 := Below.of_alloc w1 (.cells (intV (noneG n 0)) 3)
  have HF1 := Lib.hid F1
  have HB2 := Lib.hid (HB1.out.trans (B1.mono HB1.out.size))
  have HG1 := Lib.hid (GB.out.old B1)
  clear F1 B1
  generalize (w1.alloc (.cells (intV (noneG n 0)) 3)) = W2 at *
  go_loopw [32] (fun i wr => ∃ k : Nat, k ≤ n ∧ i = .int .i64 k ∧ Bk wr w1.heap.size 3 (intV (noneG n k)) ∧ Chg (· = w1.heap.size) W2 wr) (fun i _ => n - (intOf i).toNat)
  case atStart => exact ⟨0, Nat.zero_le _, rfl, HF1.out, Chg.refl _ _⟩
  case round =>
    obtain ⟨k, hk, rfl, hlk, hch⟩ := hrel
    by_cases hlt : k < n
    · have f0 := hlk.froz k
      have c0 : wr.cell? ⟨w1.heap.size, k, none⟩ = some (.int .i64 0) := by rw [hlk.cell, intV_at (noneG_at hlt)]
      have N1 := hlk.set k (.int .i64 (-1))
      rw [intV_set, noneG_set hlt] at N1
      have H1 := Lib.hid N1
      have H2 := Lib.hid (hch.setCell (p := ⟨w1.heap.size, k, none⟩) rfl (.int .i64 (-1)))
      clear N1 hlk hch
      go_wp2
      go_roundw
      case rel => exact ⟨k + 1, by omega, by go_num, H1.out, H2.out⟩
      case measure => simp [intOf]; omega
    · obtain rfl : k = n := by omega
      rw [noneG_all] at hlk
      have G3 := HG1.out.chg hch (by omega)
      have E3 := (HE.out.below HB2.out).chg hch HB2.out.size (fun b hb e => by have := HB1.out.size; omega)
      have hsz := hch.size
      have HO := Lib.hid (hops_any k es _ wr (by omega) hl6 HGE.out (E3.more (by have := HB2.out.size; omega)))
      have B3 := Lib.hid (HB2.out.trans (hch.below (B := w.heap.size) HB2.out.size (fun b e => by have := HB1.out.size; omega)))
      have HL3 := Lib.hid hlk; have HG3 := Lib.hid G3
      have gg0 : wr.cell? ⟨w.heap.size, 0, none⟩ = some (.int .i64 k) := G3.cell 0
      have gg1 : wr.cell? ⟨w.heap.size, 1, none⟩ = some (.slice A es.length c) := G3.cell 1
      clear hlk hch G3 E3
      go_wp2_with fail
      refine HO.out.mono ?_
      rintro e w4 ⟨nv, rfl, hm4, hb4⟩
      have M4 := Lib.hid hm4
      have L4 := Lib.hid (HL3.out.old hb4)
      have B4 := Lib.hid (B3.out.trans (hb4.mono B3.out.size))
      have lF := HL3.out.lt
      clear hm4 hb4 gg0 gg1
      go_wp2_with fail
      have RO : RowS ((w4.alloc (.cells #[.int .i64 (s : Int), .int .i64 0] 87)).alloc (.cells #[.slice (some ⟨w4.heap.size, 0, none⟩) 1 1] 89)) (.slice (some ⟨w4.heap.size, 0, none⟩) 1 1) [⟨s, 0⟩] :=
        ⟨rfl, .inr ⟨w4.heap.size, 1, #[.int .i64 (s : Int), .int .i64 0], rfl, Nat.zero_le _, (Bk.new w4 _ _).alloc _, Nat.le_refl _, by unfold maxLen; omega, rfl, rfl⟩⟩
      have PO := cellr w4 (.cells #[.int .i64 (s : Int), .int .i64 0] 87) #[.slice (some ⟨w4.heap.size, 0, none⟩) 1 1] 89
      have BO := below_two w4 (.cells #[.int .i64 (s : Int), .int .i64 0] 87) (.cells #[.slice (some ⟨w4.heap.size, 0, none⟩) 1 1] 89)
      have HSM := Lib.hid (show SpM _ (w4.heap.size + 1) _ [⟨s, 0⟩] from ⟨PO, RO⟩)
      have L5 := Lib.hid (L4.out.old BO)
      have HBO := Lib.hid (chg_of BO (· = w1.heap.size))
      have lF4 := L4.out.lt
      have hF4 := lF
      clear RO PO BO
      go_loopw [] (fun wr => ∃ (far : List Int) (q : List Sp) (v : Value), Bk wr w1.heap.size 3 (intV far) ∧ SpM wr (w4.heap.size + 1) v q ∧ HpOK q q.length ∧ DjI es k s far q none ∧ DjB far q none ∧ q.length + degL es far k ≤ 1 + k * es.length ∧ (∀ g, v.ownBlock = some g → w4.heap.size ≤ g) ∧ Chg (· = w1.heap.size) w4 wr) (fun wr => qW wr (w4.heap.size + 1) + degL es (farW wr w1.heap.size) k)
      case atStart => exact ⟨_, _, _, L5.out, HSM.out, fun i h0 hi => by simp at hi; omega, dj_begin hs, ⟨fun x hx => by simp at hx; subst hx; simp; omega, fun u k e => by cases e⟩, by have := degL_le es (List.replicate k (-1)) k; simp; omega, fun g e => by simp [Value.ownBlock] at e; omega, HBO.out⟩
      case round =>
        obtain ⟨far, q, v, hF, hq, hok, hI, hB, hM, hv, hch⟩ := hrel
        have MEA := Lib.hid (show qW wr (w4.heap.size + 1) + degL es (farW wr w1.heap.size) k = q.length + degL es far k by rw [qW_of hq, farW_of hF])
        obtain ⟨Av, cv, rfl⟩ := rowS_slice hq.2
        have p0 : wr.cell? ⟨w4.heap.size + 1, 0, none⟩ = some (.slice Av q.length cv) := hq.1.cell 0
        have hPl := hq.1.lt
        have hq60 : q.length ≤ 60001 := by
          have : k * es.length ≤ 100 * 600 := Nat.mul_le_mul hn hl6
          omega
        have Sr := hch.size
        have HF := Lib.hid hF; have HQ := Lib.hid hq; have HOK := Lib.hid hok; have HI := Lib.hid hI; have HB := Lib.hid hB; have HV := Lib.hid hv; have HC := Lib.hid hch
        clear hF hq hok hI hB hv hch
        rcases Nat.eq_zero_or_pos q.length with hz | hz
        · obtain rfl := List.eq_nil_of_length_eq_zero hz
          have EN := Lib.hid (dj_end HI.out hs HGE.out)
          have SLV := Lib.hid (sl_intV HF.out HI.out.len (by unfold maxLen; omega))
          have BE := Lib.hid (B4.out.trans (HC.out.below (B := w.heap.size) B4.out.size (fun b e => by have := HB1.out.size; omega)))
          clear hz MEA hq60
          simp only [List.length_nil] at p0
          go_wp2_with fail
          go_ret2
          exact ⟨_, far, rfl, SLV.out, EN.out, BE.out⟩
        · have HP := Lib.hid (hpop_any (w4.heap.size + 1) _ q wr HQ.out hz (by omega) HOK.out)
          have tz : decide (0 < q.length) = true := decide_eq_true hz
          have tz2 : decide ((0 : Int) < (q.length : Int)) = true := decide_eq_true (by omega)
          go_wp2_with fail
          refine Calls.mono HP.out ?_
          rintro e w5 ⟨x, q', rfl, hperm, hok', hmin, v', hm5, hc5, hat5⟩
          obtain ⟨vx, hvx, hvk, hwd, hx0⟩ := HI.out.ent x (hperm.mem_iff.2 (List.mem_cons_self ..))
          have hFP : w1.heap.size ≠ w4.heap.size + 1 := by omega
          have hFv : ¬ (w1.heap.size = w4.heap.size + 1 ∨ (Value.slice Av q.length cv).ownBlock = some w1.heap.size) := by
            rintro (e | e)
            · omega
            · have := HV.out _ e; omega
          have F5 := HF.out.chg hc5 hFv
          have hlen := hperm.length_eq
          have hxb := HB.out.ent x (hperm.mem_iff.2 (List.mem_cons_self ..))
          have hcn := cntF_le far
          rw [HI.out.len] at hcn
          have V5 : Hid (∀ g, v'.ownBlock = some g → w4.heap.size ≤ g) := by
            intro g e
            rcases hat5 with h | ⟨b, h, hb⟩
            · rw [h] at e; exact HV.out g e
            · rw [h] at e; injection e with e; omega
          have V5b : Hid (∀ g, v'.ownBlock = some g → g < w5.heap.size) := fun g e => own_lt hm5.2 e
          have C5 := Lib.hid (HC.out.far hc5 (fun b e => by
            rcases e with e | e
            · omega
            · exact HV.out b e))
          have c0 : w5.cell? ⟨w1.heap.size, vx, none⟩ = some (.int .i64 (fa far vx)) := by
            rw [F5.cell]
            refine intV_at ?_
            unfold fa
            rw [List.getElem?_eq_getElem (by rw [HI.out.len]; exact hvk)]; rfl
          have fz := F5.froz vx
          have lF5 := F5.lt
          obtain ⟨xv, xf⟩ := x
          simp only at hvx hx0 hxb hmin
          subst hvx
          have TA := fun W => assert_spot (vx : Int) xf W
          simp only [List.length_cons] at hlen
          have s5 := hc5.size
          have HPM := Lib.hid hperm; have HOK5 := Lib.hid hok'; have HMIN := Lib.hid hmin; have HM5 := Lib.hid hm5; have HF5 := Lib.hid F5; have HWD := Lib.hid hwd
          clear hperm hok' hmin hm5 hc5 hat5 F5 hFv hwd p0 tz tz2 HP
          by_cases hd : fa far vx = -1
          · rw [hd] at c0
            obtain ⟨b, o, cN, AR, cR, rfl, n1, n2, r1, r2, hrow⟩ := hops_row M4.out lF hvk L4.out
            unfold maxLen at n2 r2
            have HROW := Lib.hid hrow
            have DN := Lib.hid (dj_new HI.out HPM.out HMIN.out (v := vx) rfl hvk hd)
            have DB := Lib.hid (djb_new HB.out HPM.out (v := vx) (by rw [HI.out.len]; exact hvk) hd hx0)
            have DG := Lib.hid (degL_set (es := es) (x := xf) HI.out.len hvk hd (by omega))
            have FV := Lib.hid (show fa (far.set vx xf) vx = xf by rw [fa_set (by rw [HI.out.len]; exact hvk), if_pos rfl])
            have N1 := HF5.out.set vx (.int .i64 xf)
            rw [intV_set] at N1
            have Z1 : (w5.setCell ⟨w1.heap.size, vx, none⟩ (.int .i64 xf)).heap.size = w5.heap.size := by simp [World.setCell]
            have CS := (Chg.refl (· = w1.heap.size) w5).setCell (p := ⟨w1.heap.size, vx, none⟩) rfl (.int .i64 xf)
            have BA := Below.of_alloc (w5.setCell ⟨w1.heap.size, vx, none⟩ (.int .i64 xf)) (.cells #[.int .i64 (vx : Int), .int .i64 xf] 87)
            have S6 := Bk.new (w5.setCell ⟨w1.heap.size, vx, none⟩ (.int .i64 xf)) 87 #[.int .i64 (vx : Int), .int .i64 xf]
            rw [Z1] at S6
            have F6 := Lib.hid (N1.old BA)
            have M6 := Lib.hid (show SpM _ (w4.heap.size + 1) v' q' from ⟨(HM5.out.1.chg CS (fun e => hFP e.symm)).old BA, own_old (own_chg HM5.out.2 CS (fun g e => by have := V5.out g e; omega)) BA⟩)
            have C6 := Lib.hid ((C5.out.trans CS).add BA)
            have HS6 := Lib.hid S6
            have DL := Lib.hid (degL_le es (far.set vx xf) k)
            clear hd N1 Z1 CS BA S6 hrow
            go_upto_region 18 with fail
            generalize ((w5.setCell ⟨w1.heap.size, vx, none⟩ (.int .i64 xf)).alloc (.cells #[.int .i64 (vx : Int), .int .i64 xf] 87)) = W6 at *
            have s60 : W6.cell? ⟨w5.heap.size, 0, none⟩ = some (.int .i64 (vx : Int)) := HS6.out.cell 0
            have ru6 := (HROW.out W6 C6.out).1
            clear c0 fz TA
            go_wp2_with fail
            clear s60 ru6
            have lS : w5.heap.size < W6.heap.size := HS6.out.lt
            have s46 : w4.heap.size + 1 < w5.heap.size := by have := HM5.out.1.lt; omega
            have HHL : (hopsV es vx).length ≤ 600 := by
              unfold hopsV; rw [List.length_map]
              exact Nat.le_trans (List.length_filter_le _ _) hl6
            have HLQ := Lib.hid hlen
            generalize hl : (hopsV es vx).length = len at *
            have HL := Lib.hid hl
            clear hl
            have HMEA : Hid (∀ wr' : World, qW wr' (w4.heap.size + 1) + degL es (farW wr' w1.heap.size) k = q'.length + len + degL es (far.set vx xf) k → qW wr' (w4.heap.size + 1) + degL es (farW wr' w1.heap.size) k < qW wr (w4.heap.size + 1) + degL es (farW wr w1.heap.size) k) := by
              intro wr' h; rw [MEA.out, h]; have := DG.out; omega
            clear MEA
            go_loopw [68] (fun idx wr' => ∃ (q1 : List Sp) (v1 : Value) (i : Nat), i ≤ len ∧ idx = .int .i64 i ∧ SpM wr' (w4.heap.size + 1) v1 q1 ∧ HpOK q1 q1.length ∧ DjI es k s (far.set vx xf) q1 (some (vx, i)) ∧ DjB (far.set vx xf) q1 (some (vx, i)) ∧ q1.length = q'.length + i ∧ Hid (∀ g, v1.ownBlock = some g → w4.heap.size ≤ g ∧ g ≠ w5.heap.size) ∧ Bk wr' w1.heap.size 3 (intV (far.set vx xf)) ∧ Bk wr' w5.heap.size 87 #[.int .i64 (vx : Int), .int .i64 xf] ∧ Chg (· = w1.heap.size) w4 wr') (fun idx _ => len - (intOf idx).toNat)
            case atStart => exact ⟨q', v', 0, Nat.zero_le _, rfl, M6.out, HOK5.out, DN.out, DB.out, rfl, fun g e => ⟨V5.out g e, by have := V5b.out g e; omega⟩, F6.out, HS6.out, C6.out⟩
            case round =>
              obtain ⟨q1, v1, i, hi, rfl, hm1, hok1, hI1, hB1, hq1, hv1, hf1, hs1, hc1'⟩ := hrel
              have S7 := hc1'.size
              by_cases hlt : i < len
              · obtain ⟨h, hh⟩ : ∃ h, (hopsV es vx)[i]? = some h := ⟨_, List.getElem?_eq_getElem (by rw [HL.out]; exact hlt)⟩
                obtain ⟨br, orr, rfl, a0, a1⟩ := (HROW.out wr hc1').2 i h hh
                have hg : (0 ≤ h.t ∧ h.t < (k : Int)) ∧ 0 ≤ h.g ∧ h.g ≤ 1099511627776 := by
                  obtain ⟨e, hee, _, e2⟩ := mem_hopsV.1 (List.mem_of_getElem? hh)
                  rw [e2]
                  exact ⟨⟨(HGE.out e hee).2.2.1, (HGE.out e hee).2.2.2⟩, HGW.out e hee⟩
                obtain ⟨⟨t0, t1⟩, w0, w1'⟩ := hg
                have HH := Lib.hid hh
                obtain ⟨ht, hgw⟩ := h
                simp only at t0 t1 w0 w1' a0 a1
                have s0 : wr.cell? ⟨w5.heap.size, 1, none⟩ = some (.int .i64 xf) := hs1.cell 1
                have ls := hs1.lt
                have BA := Below.of_alloc wr (.cells #[.int .i64 ht, .int .i64 hgw] 94)
                have M7 : SpM _ (w4.heap.size + 1) v1 q1 := ⟨hm1.1.old BA, own_old hm1.2 BA⟩
                have HPU := Lib.hid (hpush_any (w4.heap.size + 1) v1 q1 ⟨ht, xf + hgw⟩ _ M7 (by omega) hok1)
                have F7 := Lib.hid (hf1.old BA); have S8 := Lib.hid (hs1.old BA); have C7 := Lib.hid (hc1'.add BA)
                have HI1 := Lib.hid hI1; have HB1' := Lib.hid hB1; have HV1 := hv1
                have O7 := Lib.hid (fun g (e : v1.ownBlock = some g) => own_lt M7.2 e)
                have hm0 := hm1.1.lt
                have s7 := BA.size
                clear hm1 hok1 hI1 hB1 hf1 hs1 hc1' M7 BA hh
                go_wp2_with fail
                refine Calls.mono HPU.out ?_
                rintro e w8 ⟨rfl, q2, hp2, hok2, v2, hm2, hc2', hat2⟩
                have nF : ¬ (w1.heap.size = w4.heap.size + 1 ∨ v1.ownBlock = some w1.heap.size) := by
                  rintro (e | e)
                  · omega
                  · have := (HV1.out _ e).1; omega
                have nS : ¬ (w5.heap.size = w4.heap.size + 1 ∨ v1.ownBlock = some w5.heap.size) := by
                  rintro (e | e)
                  · omega
                  · exact (HV1.out _ e).2 rfl
                have F8 := Lib.hid (F7.out.chg hc2' nF)
                have S9 := Lib.hid (S8.out.chg hc2' nS)
                have C8 := Lib.hid (C7.out.far hc2' (fun b e => by
                  rcases e with e | e
                  · omega
                  · exact (HV1.out b e).1))
                have V8 : Hid (∀ g, v2.ownBlock = some g → w4.heap.size ≤ g ∧ g ≠ w5.heap.size) := by
                  intro g e
                  rcases hat2 with h | ⟨b, h, hb⟩
                  · rw [h] at e; exact HV1.out g e
                  · rw [h] at e; injection e with e; omega
                have hp3 : q2.Perm (⟨ht, fa (far.set vx xf) vx + hgw⟩ :: q1) := by rw [FV.out]; exact hp2
                have DI := Lib.hid (dj_push HI1.out HH.out ⟨t0, t1⟩ w0 hp3)
                have DBB := Lib.hid (djb_push HB1'.out hp3 (by simp only; omega))
                have LQ := hp2.length_eq
                simp only [List.length_cons] at LQ
                have HM2 := Lib.hid hm2; have HOK2 := Lib.hid hok2
                clear hp2 hok2 hm2 hc2' hat2 nF nS hp3 HPU a0 a1 s0
                go_wp2
                go_roundw
                case rel => exact ⟨q2, v2, i + 1, by omega, by go_num, HM2.out, HOK2.out, DI.out, DBB.out, by omega, V8, F8.out, S9.out, C8.out⟩
                case measure => simp [intOf]; omega
              · obtain rfl : i = len := by omega
                rw [← HL.out] at hI1
                have DD := Lib.hid (dj_done hI1)
                have DE := Lib.hid (djb_done hB1)
                have ME := Lib.hid (show qW wr (w4.heap.size + 1) + degL es (farW wr w1.heap.size) k = q'.length + i + degL es (far.set vx xf) k by rw [qW_of hm1, farW_of hf1, hq1])
                have HM1 := Lib.hid hm1; have HOK1 := Lib.hid hok1; have HF1' := Lib.hid hf1; have HC1 := Lib.hid hc1'
                have DGO := DG.out
                clear hm1 hok1 hI1 hB1 hf1 hs1 hc1'
                go_wp2
                go_roundw
                case rel => exact ⟨_, q1, v1, HF1'.out, HM1.out, HOK1.out, DD.out, DE.out, by omega, fun g e => (hv1.out g e).1, HC1.out⟩
                case measure => exact HMEA.out _ ME.out
          · have td : (fa far vx != -1) = true := by simpa using hd
            have SK := Lib.hid (dj_skip HI.out HPM.out (v := vx) rfl hvk hd)
            have SB := Lib.hid (djb_skip HB.out HPM.out)
            have BA := Below.of_alloc w5 (.cells #[.int .i64 (vx : Int), .int .i64 xf] 87)
            have F6 := Lib.hid (HF5.out.old BA)
            have M6 := Lib.hid (show SpM _ (w4.heap.size + 1) v' q' from ⟨HM5.out.1.old BA, own_old HM5.out.2 BA⟩)
            have C6 := Lib.hid (C5.out.add BA)
            have ME6 : Hid (qW (w5.alloc (.cells #[.int .i64 (vx : Int), .int .i64 xf] 87)) (w4.heap.size + 1) + degL es (farW (w5.alloc (.cells #[.int .i64 (vx : Int), .int .i64 xf] 87)) w1.heap.size) k = q'.length + degL es far k) := by unfold Hid; rw [qW_of M6.out, farW_of F6.out]
            clear hd BA
            go_wp2
            go_roundw
            case rel => exact ⟨far, q', v', F6.out, M6.out, HOK5.out, SK.out, SB.out, by omega, V5.out, C6.out⟩
            case measure => rw [MEA.out, ME6.out]; omega
end Go.Proofs.Ytbholafggbdieaa
