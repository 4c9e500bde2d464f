/- paths.Strong: what it answers of a graph that is good. -/
import Derived.Test.YtbholafggbdieaaSearch
import Derived.Test.YtbholafggbdieaaReverseDefs
import Derived.Test.YtbholafggbdieaaZonePair
namespace Go.Proofs.Ytbholafggbdieaa
open Go.RowKit

def intV (l : List Int) : Array Value := (l.map (.int .i64)).toArray
theorem intV_at {l : List Int} {k : Nat} {x : Int} (hx : l[k]? = some x) : (intV l)[k]? = some (.int .i64 x) := by
  unfold intV; rw [List.getElem?_toArray, List.getElem?_map, hx]; rfl
theorem intV_set (l : List Int) (k : Nat) (x : Int) : (intV l).setIfInBounds k (.int .i64 x) = intV (l.set k x) := by
  unfold intV; simp [List.map_set]
def noneG (n k : Nat) : List Int := List.replicate k (-1) ++ List.replicate (n - k) 0
theorem noneG_set {n k : Nat} (h : k < n) : (noneG n k).set k (-1) = noneG n (k + 1) := by
  unfold noneG
  rw [List.set_append_right _ _ (by simp), List.replicate_succ', List.append_assoc]
  congr 1
  simp only [List.length_replicate, Nat.sub_self]
  obtain ⟨m, hm⟩ : ∃ m, n - k = m + 1 := ⟨n - k - 1, by omega⟩
  rw [hm, show n - (k + 1) = m by omega]
  rfl
theorem noneG_all (n : Nat) : noneG n n = List.replicate n (-1) := by simp [noneG]
theorem noneG_at {n k : Nat} (h : k < n) : (noneG n k)[k]? = some 0 := by
  unfold noneG
  rw [List.getElem?_append_right (by simp), List.getElem?_replicate]
  simp only [List.length_replicate, Nat.sub_self]
  rw [if_pos (by omega)]
theorem made_intV (n : Nat) : madeCells #[.int .i64 0] n = intV (noneG n 0) := by
  refine Array.ext_getElem? fun i => ?_
  by_cases h : i < n
  · rw [intV_at (x := 0) (by simp [noneG, h])]
    simp [madeCells, h, Nat.mod_one]
  · rw [Array.getElem?_eq_none (by simp [madeCells]; omega), Array.getElem?_eq_none (by simp [intV, noneG]; omega)]
theorem made_boolV (n : Nat) : madeCells #[.bool false] n = boolV (List.replicate n false) := by
  refine Array.ext_getElem? fun i => ?_
  by_cases h : i < n
  · rw [boolV_at (by simpa using h)]
    simp [madeCells, h, Nat.mod_one, sn]
  · rw [Array.getElem?_eq_none (by simp [madeCells]; omega), Array.getElem?_eq_none (by simp [boolV]; omega)]
theorem infoBool : (Try.prog.info? 4).map (fun i => (i.zero, i.size, i.bytes)) = some (some (.bool false), 1, 1) := by kernel_rfl
theorem sl_intV {w : World} {G n : Nat} {l : List Int} (h : Bk w G 3 (intV l)) (hl : l.length = n) (hn : n ≤ maxLen) : Sl 1 encN w w.heap.size (.slice (some ⟨G, 0, none⟩) n n) l := by
  refine ⟨some ⟨G, 0, none⟩, n, by rw [hl], by omega, hn, fun _ => ⟨G, 0, rfl, h.lt, fun i x hx j u hu => ?_⟩⟩
  match j, hu with
  | 0, hu =>
    have hu' : Value.int .i64 x = u := by simpa [encN] using hu
    subst hu'
    rw [h.cell, Nat.zero_add, Nat.mul_one, Nat.add_zero, intV_at hx]
  | j + 1, hu => simp [encN] at hu
theorem Chg.far {S T : Nat → Prop} {w w' w'' : World} (h : Chg S w w') (k : Chg T w' w'') (hT : ∀ i, T i → w.heap.size ≤ i) : Chg S w w'' :=
  ⟨k.os.trans h.os, k.tape.trans h.tape, k.output.trans h.output, Nat.le_trans h.size k.size, fun i hi hS => (k.block i (Nat.lt_of_lt_of_le hi h.size) (fun ht => by have := hT i ht; omega)).trans (h.block i hi hS)⟩
def StrongR (n : Nat) (es : List Ed) (w : World) (e : Ending) (w' : World) : Prop := ∃ v lab, e = .returned (.tuple #[v, .int .i64 0]) ∧ Sl 1 encN w' w'.heap.size v lab ∧ LbI es n n lab ∧ Below w.heap.size w w'
/-- What two calls of make leave behind, in either order. -/
def TwoMade (w : World) (n : Nat) (v1 v2 : Value) (w' : World) : Prop := ∃ a b : Nat, v1 = .slice (some ⟨a, 0, none⟩) n n ∧ v2 = .slice (some ⟨b, 0, none⟩) n n ∧ a ≠ b ∧ w.heap.size ≤ a ∧ w.heap.size ≤ b ∧ Bk w' a 4 (boolV (List.replicate n false)) ∧ Bk w' b 4 (boolV (List.replicate n false)) ∧ Below w.heap.size w w'

set_option maxRecDepth 10000 in
set_option maxHeartbeats 4000000 in
theorem strong_any (n : Nat) (es : List Ed) (ev : Value) (w : World) (hn0 : 1 ≤ n) (hg : checkG (n : Int) es = 0) (he : Sl 3 encE w w.heap.size ev es)
    (RV : Hid (∀ W, Below w.heap.size w W → Calls Try.prog 37 #[.agg #[.int .i64 n, ev]] W (RevR n es W))) :
    Calls Try.prog 21 #[.agg #[.int .i64 n, ev]] w (StrongR n es w) := by
  obtain ⟨hz0, hn1, hl6, hall⟩ := checkG_zero hg
  have GE : ∀ e ∈ es, 0 ≤ e.f ∧ e.f < (n : Int) ∧ 0 ≤ e.t ∧ e.t < (n : Int) := by
    intro e h
    have := hall e h
    simp only [goodE, insB, Bool.and_eq_true, decide_eq_true_eq] at this
    omega
  have HGE := Lib.hid GE
  have hmk := fun W => run_make_row' (P := Try.prog) 38 3 (.int .i64 0) 8 Try.underlying38 infoMail rfl .i64 .i64 n (by omega) (by omega) W
  have hmb := Lib.hid (fun W => run_make_row' (P := Try.prog) 84 4 (.bool false) 1 Try.underlying84 infoBool rfl .i64 .i64 n (by omega) (by omega) W)
  obtain ⟨A, c, rfl, hc1, hc2, hA⟩ := id he
  have HE := Lib.hid he
  unfold maxLen at hc2
  clear hg hall GE hA he
  go_enter Try.func21, Try.ntmps21
  go_wp2_with fail
  refine (RV.out _ (Below.of_alloc _ _)).mono ?_
  rintro e w1 ⟨bv, bs, rfl, hbs, hbl, hbm, hb1⟩
  have gb := (Bk.new w 25 #[.int .i64 n, .slice A es.length c]).old hb1
  obtain ⟨A2, c2, rfl, hd1, hd2, _⟩ := id hbs
  unfold maxLen at hd2
  have HB1 := Lib.hid ((Below.of_alloc w (.cells #[.int .i64 n, .slice A es.length c] 25)).trans (hb1.mono (by simp)))
  have g0 : w1.cell? ⟨w.heap.size, 0, none⟩ = some (.int .i64 n) := gb.cell 0
  have gl := gb.lt
  have GB := Lib.hid gb; have HBS := Lib.hid hbs; have HBL := Lib.hid hbl; have HBM := Lib.hid hbm
  clear hb1 gb hbs hbl hbm
  go_wp2_with fail
  rw [made_intV]
  clear hmk g0
  have G1 := (((GB.out.alloc (.cells #[.int .i64 n, .slice A2 bs.length c2] 25)).alloc (.cells (intV (noneG n 0)) 3)))
  have P1 := (Bk.new w1 25 #[.int .i64 n, .slice A2 bs.length c2]).alloc (.cells (intV (noneG n 0)) 3)
  have L1 := cellr w1 (.cells #[.int .i64 n, .slice A2 bs.length c2] 25) (intV (noneG n 0)) 3
  have B1 := below_two w1 (.cells #[.int .i64 n, .slice A2 bs.length c2] 25) (.cells (intV (noneG n 0)) 3)
  have S1 := Lib.hid (HBS.out.below B1)
  have B1s := B1.size
  have HB2 := Lib.hid (HB1.out.trans (B1.mono HB1.out.size))
  have HG1 := Lib.hid G1; have HP1 := Lib.hid P1; have HL1 := Lib.hid L1
  have Z1 : Hid (((w1.alloc (.cells #[.int .i64 n, .slice A2 bs.length c2] 25)).alloc (.cells (intV (noneG n 0)) 3)).heap.size = w1.heap.size + 2) := by unfold Hid; simp
  clear G1 P1 L1 B1
  generalize ((w1.alloc (.cells #[.int .i64 n, .slice A2 bs.length c2] 25)).alloc (.cells (intV (noneG n 0)) 3)) = W2 at *
  generalize hL : w1.heap.size + 1 = L at *
  have HLL := Lib.hid hL
  clear hL
  go_loopw [27] (fun i wr => ∃ k : Nat, k ≤ n ∧ i = .int .i64 k ∧ Bk wr L 3 (intV (noneG n k)) ∧ Chg (· = L) W2 wr) (fun i _ => n - (intOf i).toNat)
  case atStart => exact ⟨0, Nat.zero_le _, rfl, HL1.out, Chg.refl _ _⟩
  case round =>
    obtain ⟨k, hk, rfl, hlk, hch⟩ := hrel
    by_cases hlt : k < n
    · have f0 := hlk.froz k
      have c0 : wr.cell? ⟨L, k, none⟩ = some (.int .i64 0) := by rw [hlk.cell, intV_at (noneG_at hlt)]
      have N1 := hlk.set k (.int .i64 (-1))
      rw [intV_set, noneG_set hlt] at N1
      have H1 := Lib.hid N1
      have H2 := Lib.hid (hch.setCell (p := ⟨L, k, none⟩) rfl (.int .i64 (-1)))
      clear N1 hlk hch
      go_wp2
      go_roundw
      case rel => exact ⟨k + 1, by omega, by go_num, H1.out, H2.out⟩
      case measure => simp [intOf]; omega
    · obtain rfl : k = n := by omega
      have hLs := HL1.out.lt
      have W2L : w1.heap.size ≠ L := by have := HLL.out; omega
      have W0L : w.heap.size ≠ L := by have := HLL.out; omega
      have G3 := HG1.out.chg hch W0L
      have P3 := HP1.out.chg hch W2L
      have E3 := Lib.hid ((HE.out.below HB2.out).chg hch HB2.out.size (fun b hb e => by have := HLL.out; omega))
      have S3 := Lib.hid ((S1.out).chg hch B1s (fun b hb e => by have := HLL.out; omega))
      have hsz := hch.size
      have HO1 := Lib.hid (fun W (hb : Below wr.heap.size wr W) => hops_any k es _ W (by omega) hl6 HGE.out ((E3.out.more (show w.heap.size ≤ wr.heap.size by have := HB2.out.size; omega)).old hb))
      have HO2 := Lib.hid (fun W (hb : Below wr.heap.size wr W) => hops_any k bs _ W (by omega) (by rw [HBL.out]; exact hl6) (fun e he => by
        obtain ⟨x, hx, rfl⟩ := (HBM.out e).1 he
        have := HGE.out x hx
        exact ⟨this.2.2.1, this.2.2.2, this.1, this.2.1⟩) ((S3.out.more (Nat.le_trans B1s hsz)).old hb))
      have B3 := Lib.hid (HB2.out.trans (hch.below (B := w.heap.size) HB2.out.size (fun b e => by have := HLL.out; have := HB1.out.size; omega)))
      have L3 := Lib.hid hlk
      have gg0 : wr.cell? ⟨w.heap.size, 0, none⟩ = some (.int .i64 k) := G3.cell 0
      have gg1 : wr.cell? ⟨w.heap.size, 1, none⟩ = some (.slice A es.length c) := G3.cell 1
      have pp0 : wr.cell? ⟨w1.heap.size, 0, none⟩ = some (.int .i64 k) := P3.cell 0
      have pp1 : wr.cell? ⟨w1.heap.size, 1, none⟩ = some (.slice A2 bs.length c2) := P3.cell 1
      have HG3 := Lib.hid G3; have HP3 := Lib.hid P3
      clear hlk hch G3 P3
      go_wp2_with fail
      refine wp_region_zs (fun W => W.cell? ⟨w.heap.size, 0, none⟩ = some (.int .i64 k) ∧ W.cell? ⟨w.heap.size, 1, none⟩ = some (.slice A es.length c) ∧ W.cell? ⟨w1.heap.size, 0, none⟩ = some (.int .i64 k) ∧ W.cell? ⟨w1.heap.size, 1, none⟩ = some (.slice A2 bs.length c2)) [] (by kernel_rfl) ?_
      refine wpZ_batch (is := [0, 2]) (by kernel_rfl) ⟨gg0, gg1, pp0, pp1⟩ (a1 := ?_) ?_ ?_
      rotate_left
      · repeat
          (refine SeqY.run (v := ?_) rfl (by rfl) ?_ ?_
           rotate_left
           · (intro W hS; (try dsimp only at hS); go_simp; (try with_reducible rfl)))
        exact SeqY.nil
      refine wpZ_one (i := 1) (by kernel_rfl) rfl (fun K hK => ?_)
      go_simp
      refine (HO1.out _ (Below.refl _ _).drew).mono ?_
      rintro e w4 ⟨v4, rfl, hm4, hb4⟩
      have hb4' : Below wr.heap.size wr w4 := (Below.refl _ _).drew.trans hb4
      have G4 := HG3.out.old hb4'; have P4 := HP3.out.old hb4'
      refine hK.out _ _ ⟨G4.cell 0, G4.cell 1, P4.cell 0, P4.cell 1⟩ (fun hS => ?_)
      clear hK K
      refine wpZ_one (i := 3) (by kernel_rfl) rfl (fun K hK => ?_)
      go_simp
      refine (HO2.out _ hb4').mono ?_
      rintro e w5 ⟨v5, rfl, hm5, hb5⟩
      have hb5' : Below wr.heap.size wr w5 := hb4'.trans (hb5.mono hb4'.size)
      have G5 := HG3.out.old hb5'; have P5 := HP3.out.old hb5'
      refine hK.out _ _ ⟨G5.cell 0, G5.cell 1, P5.cell 0, P5.cell 1⟩ (fun hS5 => ?_)
      clear hK K hS
      refine wpZ_batch (is := [4, 5]) (by kernel_rfl) hS5 (a1 := ?_) ?_ ?_
      rotate_left
      · repeat
          (refine SeqY.run (v := ?_) rfl (by rfl) ?_ ?_
           rotate_left
           · (intro W hS; (try dsimp only at hS); go_simp; (try with_reducible rfl)))
        exact SeqY.nil
      refine wpZ_done (by kernel_rfl) ?_
      have M4 := Lib.hid (fun W' (hc : Chg (fun b => b < wr.heap.size) w5 W') => hm4 W' ((chg_of hb5 _).trans hc)); have M5 := Lib.hid (fun W' (hc : Chg (fun b => b < wr.heap.size) w5 W') => hm5 W' (hc.mono (fun b _ hb => by have := hb4'.size; omega)))
      have HLW : L < wr.heap.size := L3.out.lt
      have L5 := Lib.hid (L3.out.old hb5')
      have B5 := Lib.hid (B3.out.trans (hb5'.mono B3.out.size))
      have HG5 := Lib.hid G5
      have GL5 := G5.lt
      clear gg0 gg1 pp0 pp1 G4 P4 G5 P5 hS5 hm4 hm5 hb4 hb5 hb4' hb5' HO1 HO2
      go_wp2_with fail
      generalize hW5 : w5 = W5 at *
      clear hW5
      generalize hWB : wr.heap.size = WB at *
      clear hWB
      go_loopw [40] (fun i wr => ∃ (q : Nat) (lab : List Int), q ≤ k ∧ i = .int .i64 q ∧ Bk wr L 3 (intV lab) ∧ LbI es k q lab ∧ Chg (· = L) W5 wr) (fun i _ => k - (intOf i).toNat)
      case atStart => exact ⟨0, _, Nat.zero_le _, rfl, L5.out, by rw [noneG_all]; exact lbi_begin es k, Chg.refl _ _⟩
      case round =>
        obtain ⟨q, lab, hq, rfl, hlk, hI, hch⟩ := hrel
        have Sr := hch.size
        have len := hI.len
        have HI := Lib.hid hI; have HLK := Lib.hid hlk; have HC := Lib.hid hch
        by_cases hlq : q < k
        · obtain ⟨x, hx⟩ : ∃ x, lab[q]? = some x := ⟨_, List.getElem?_eq_getElem (by omega)⟩
          have c0 : wr.cell? ⟨L, q, none⟩ = some (.int .i64 x) := by rw [hlk.cell, intV_at hx]
          have HX := Lib.hid hx
          by_cases hne : x = -1
          · subst hne
            have G6 := HG5.out.chg hch W0L
            have gg0 : wr.cell? ⟨w.heap.size, 0, none⟩ = some (.int .i64 k) := G6.cell 0
            clear hlk hI hch len hx
            go_wp2_with fail
            refine wp_region_zs (fun W => W.cell? ⟨w.heap.size, 0, none⟩ = some (.int .i64 k)) [] (by kernel_rfl) ?_
            refine wpZ_batch (is := [0, 1, 3, 4]) (by kernel_rfl) gg0 (a1 := ?_) ?_ ?_
            rotate_left
            · repeat
                (refine SeqY.run (v := ?_) rfl (by rfl) ?_ ?_
                 rotate_left
                 · (intro W hS; (try dsimp only at hS); go_simp; (try with_reducible rfl)))
              exact SeqY.nil
            have hmb' := hmb.out
            have glt : w.heap.size < wr.heap.size := G6.lt
            refine wpZ_pair1 (i := 2) (k := 5) (m := 6) (TwoMade wr k) (by kernel_rfl) rfl rfl rfl rfl rfl rfl (fun v1 W => by go_simp) ?_ ?_ ?_
            · unfold Gives
              go_simp
              rw [made_boolV]
              exact ⟨wr.heap.size, wr.heap.size + 1, rfl, rfl, by omega, Nat.le_refl _, by omega, (Bk.new wr.drew _ _).alloc _, cellr wr.drew _ _ _, (Below.refl _ _).drew.trans (below_two wr.drew _ _)⟩
            · unfold Gives
              go_simp
              rw [made_boolV]
              exact ⟨wr.heap.size + 1, wr.heap.size, rfl, rfl, by omega, by omega, Nat.le_refl _, cellr wr.drew _ _ _, (Bk.new wr.drew _ _).alloc _, (Below.refl _ _).drew.trans (below_two wr.drew _ _)⟩
            intro v1 v2 w6 hS6 hK6
            obtain ⟨ga, gb, rfl, rfl, hab, ha0, hb0, hka, hkb, hb6⟩ := hK6
            clear hmb'
            refine wpZ_batch (is := [7]) (by kernel_rfl) hS6 (a1 := ?_) ?_ ?_
            rotate_left
            · repeat
                (refine SeqY.run (v := ?_) rfl (by rfl) ?_ ?_
                 rotate_left
                 · (intro W hS; (try dsimp only at hS); go_simp; (try with_reducible rfl)))
              exact SeqY.nil
            refine wpZ_done (by kernel_rfl) ?_
            have MA := (M4.out wr (HC.out.mono (fun b _ e => by omega))).below hb6
            have MB := (M5.out wr (HC.out.mono (fun b _ e => by omega))).below hb6
            have hs6 := hb6.size
            have SA := Lib.hid (search_any es k q ga wr.heap.size _ w6 (by omega) hl6 HGE.out hlq MA hs6 ha0 hka)
            have BL6 : bs.length ≤ 600 := by rw [HBL.out]; exact hl6
            have BGE : ∀ e ∈ bs, 0 ≤ e.f ∧ e.f < (k : Int) ∧ 0 ≤ e.t ∧ e.t < (k : Int) := fun e he => by
              obtain ⟨x, hx, rfl⟩ := (HBM.out e).1 he
              have := HGE.out x hx
              exact ⟨this.2.2.1, this.2.2.2, this.1, this.2.1⟩
            have HMB := Lib.hid MB; have HBGE := Lib.hid BGE; have HKB := Lib.hid hkb
            have L6 := Lib.hid (HLK.out.old hb6)
            have C6 := Lib.hid (HC.out.add hb6)
            have HLA := HLK.out.lt
            clear hS6 hka hkb hb6 MA MB BGE gg0 G6
            go_wp2_with fail
            refine SA.out.mono ?_
            rintro e w7 ⟨sa, rfl, hla, hra, hka7, hc7⟩
            have hs7 := hc7.size
            have SB := Lib.hid (search_any bs k q gb wr.heap.size _ w7 (by omega) BL6 HBGE.out hlq (HMB.out.chg hc7 hs6 (fun b hb e => by omega)) (by omega) hb0 (HKB.out.chg hc7 (by omega)))
            have L7 := Lib.hid (L6.out.chg hc7 (by omega))
            have C7 := Lib.hid (C6.out.far hc7 (fun b e => by omega))
            have KA7 := Lib.hid hka7
            clear hka7 hc7 SA HMB HKB
            go_wp2_with fail
            refine SB.out.mono ?_
            rintro e w8 ⟨sb, rfl, hlb, hrb, hkb8, hc8⟩
            have hs8 := hc8.size
            have L8 := Lib.hid (L7.out.chg hc8 (by omega))
            have C8 := Lib.hid (C7.out.far hc8 (fun b e => by omega))
            have KA8 := Lib.hid (KA7.out.chg hc8 (by omega))
            have KB8 := Lib.hid hkb8
            have RA := Lib.hid hra
            have RB := Lib.hid (fun u (hu : u < k) => (hrb u hu).trans (rc_back HBM.out))
            have HLA := Lib.hid hla; have HLB := Lib.hid hlb; have HLN := Lib.hid HI.out.len
            clear hkb8 hc8 SB hra hrb hla hlb c0
            go_wp2_with fail
            generalize hW8 : w8 = W8 at *
            clear hW8
            go_loopw [64] (fun i wr' => ∃ p : Nat, p ≤ k ∧ i = .int .i64 p ∧ Bk wr' L 3 (intV (labS lab sa sb q p)) ∧ Chg (· = L) W8 wr') (fun i _ => k - (intOf i).toNat)
            case atStart => exact ⟨0, Nat.zero_le _, rfl, by rw [labS_zero]; exact L8.out, Chg.refl _ _⟩
            case round =>
              obtain ⟨p, hp, rfl, hlk, hch⟩ := hrel
              have HLK2 := Lib.hid hlk; have HC2 := Lib.hid hch
              by_cases hlp : p < k
              · have a0 : wr.cell? ⟨ga, p, none⟩ = some (.bool (sn sa p)) := by rw [(KA8.out.chg hch (by omega)).cell, boolV_at (by rw [HLA.out]; exact hlp)]
                have b0 : wr.cell? ⟨gb, p, none⟩ = some (.bool (sn sb p)) := by rw [(KB8.out.chg hch (by omega)).cell, boolV_at (by rw [HLB.out]; exact hlp)]
                clear hlk hch
                cases hsa : sn sa p
                · rw [hsa] at a0
                  have NO := Lib.hid (labS_no (lab := lab) (k := q) (show ¬ (sn sa p = true ∧ sn sb p = true) by rw [hsa]; simp))
                  clear hsa
                  go_wp2
                  go_roundw
                  case rel => exact ⟨p + 1, by omega, by go_num, by rw [NO.out]; exact HLK2.out, HC2.out⟩
                  case measure => simp [intOf]; omega
                · cases hsb : sn sb p
                  · rw [hsa] at a0
                    rw [hsb] at b0
                    have NO := Lib.hid (labS_no (lab := lab) (k := q) (show ¬ (sn sa p = true ∧ sn sb p = true) by rw [hsb]; simp))
                    clear hsa hsb
                    go_wp2
                    go_roundw
                    case rel => exact ⟨p + 1, by omega, by go_num, by rw [NO.out]; exact HLK2.out, HC2.out⟩
                    case measure => simp [intOf]; omega
                  · rw [hsa] at a0
                    rw [hsb] at b0
                    have YES := labS_yes (lab := lab) (A := sa) (B := sb) (k := q) (q := p) (by rw [HLN.out]; exact hlp) ⟨hsa, hsb⟩
                    have N1 := HLK2.out.set p (.int .i64 (q : Int))
                    rw [intV_set, YES] at N1
                    obtain ⟨y, hy⟩ : ∃ y, (labS lab sa sb q p)[p]? = some y := ⟨_, List.getElem?_eq_getElem (by rw [labS_len, HLN.out]; exact hlp)⟩
                    have c0 : wr.cell? ⟨L, p, none⟩ = some (.int .i64 y) := by rw [HLK2.out.cell, intV_at hy]
                    have f0 := HLK2.out.froz p
                    have H1 := Lib.hid N1
                    have H2 := Lib.hid (HC2.out.setCell (p := ⟨L, p, none⟩) rfl (.int .i64 (q : Int)))
                    clear hsa hsb N1 YES hy
                    go_wp2
                    go_roundw
                    case rel => exact ⟨p + 1, by omega, by go_num, H1.out, H2.out⟩
                    case measure => simp [intOf]; omega
              · obtain rfl : p = k := by omega
                have GV := Lib.hid (lbi_give HI.out hlq HX.out RA.out RB.out)
                have C9 := Lib.hid (C8.out.trans hch)
                clear hlk hch
                go_wp2
                go_roundw
                case rel => exact ⟨q + 1, _, by omega, by go_num, HLK2.out, GV.out, C9.out⟩
                case measure => simp [intOf]; omega
          · have t0 : (x != -1) = true := by simpa using hne
            have NX := Lib.hid (lbi_skip hI hlq (by rw [hx]; simpa using hne))
            clear hlk hI hch len hx hne
            go_wp2
            go_roundw
            case rel => exact ⟨q + 1, lab, by omega, by go_num, HLK.out, NX.out, HC.out⟩
            case measure => simp [intOf]; omega
        · obtain rfl : q = k := by omega
          have SLV := Lib.hid (sl_intV hlk len (by unfold maxLen; omega))
          have B6 := Lib.hid (B5.out.trans (hch.below (B := w.heap.size) B5.out.size (fun b e => by have := HLL.out; have := HB1.out.size; omega)))
          clear hlk hI hch len
          go_wp2_with fail
          go_ret2
          exact ⟨_, lab, rfl, SLV.out, HI.out, B6.out⟩
end Go.Proofs.Ytbholafggbdieaa
