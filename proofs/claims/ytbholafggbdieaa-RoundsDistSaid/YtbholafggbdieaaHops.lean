/- paths.hops: the hops of all vertices. -/
import Derived.Test.YtbholafggbdieaaStrongLaw
import Derived.Test.YtbholafggbdieaaRows2
import Derived.Test.YtbholafggbdieaaZones
import Derived.Test.YtbholafggbdieaaBegin
namespace Go.Proofs.Ytbholafggbdieaa
open Go.RowKit

theorem infoRowH : (Try.prog.info? 92).map (fun i => (i.zero, i.size, i.bytes)) = some (some (.slice none 0 0), 1, 24) := by kernel_rfl
theorem infoHop : (Try.prog.info? 94).map (fun i => (i.zero, i.size, i.bytes)) = some (some (.agg #[.int .i64 0, .int .i64 0]), 2, 16) := by kernel_rfl
theorem flat_hops (l : List Hp) : (l.flatMap encH).length = l.length * 2 := by
  induction l with
  | nil => rfl
  | cons x l ih => rw [List.flatMap_cons, List.length_append, ih, List.length_cons]; simp [encH]; omega
theorem made_rows (n : Nat) : madeCells #[Value.slice none 0 0] n = Array.replicate n (Value.slice none 0 0) := by
  refine Array.ext_getElem? fun i => ?_
  by_cases h : i < n
  · rw [made_at h]; simp [h]
  · rw [Array.getElem?_eq_none (by simp [madeCells]; omega), Array.getElem?_eq_none (by simp; omega)]
abbrev HopsM (w : World) (B : Nat) (v : Value) (n : Nat) (es : List Ed) : Prop := MxE 2 encH w B v (hopsG n es)
def HopsR (n : Nat) (es : List Ed) (w : World) (e : Ending) (w' : World) : Prop := ∃ v, e = .returned v ∧ (∀ W', Chg (fun b => b < w.heap.size) w' W' → HopsM W' W'.heap.size v n es) ∧ Below w.heap.size w w'

set_option maxRecDepth 10000 in
set_option maxHeartbeats 2000000 in
theorem hops_any (n : Nat) (es : List Ed) (ev : Value) (w : World) (hn1 : n ≤ 200) (hl6 : es.length ≤ 600) (hg : ∀ e ∈ es, 0 ≤ e.f ∧ e.f < (n : Int) ∧ 0 ≤ e.t ∧ e.t < (n : Int)) (he : Sl 3 encE w w.heap.size ev es) :
    Calls Try.prog 38 #[.agg #[.int .i64 n, ev]] w (HopsR n es w) := by
  have hmk := fun W => run_make_row' (P := Try.prog) 82 92 (.slice none 0 0) 24 Try.underlying82 infoRowH rfl .i64 .i64 n (by omega) (by omega) W
  obtain ⟨A, c, rfl, hc1, hc2, hA⟩ := he
  have HA := Lib.hid hA; have HG := Lib.hid hg
  unfold maxLen at hc2
  clear hA hg
  go_enter Try.func38, Try.ntmps38
  go_wp2_with fail
  clear hmk
  rw [made_rows]
  have R0 := Lib.hid (RowsE.begin_ (enc := encH) (sz := 2) (et := 94) (S := (w.heap.size + 2 ≤ ·)) (cellr w (.cells #[.int .i64 n, .slice A es.length c] 25) (Array.replicate n (Value.slice none 0 0)) 92))
  have B0 := Lib.hid (below_two w (.cells #[.int .i64 n, .slice A es.length c] 25) (.cells (Array.replicate n (Value.slice none 0 0)) 92))
  go_loopw [12] (fun i wr => ∃ (q : Nat) (vs : List Value), q ≤ es.length ∧ i = .int .i64 q ∧ RowsE encH 2 92 94 wr (w.heap.size + 1) n (w.heap.size + 2 ≤ ·) (hopsV (es.take q)) vs ∧ Below w.heap.size w wr) (fun i _ => es.length - (intOf i).toNat)
  case atStart => exact ⟨0, _, Nat.zero_le _, rfl, R0.out, B0.out⟩
  case round =>
    clear R0 B0
    obtain ⟨q, vs, hq, rfl, hrow, hbel⟩ := hrel
    have Sr := hbel.size
    have HR := Lib.hid hrow; have HB := Lib.hid hbel
    by_cases hlt : q < es.length
    · obtain ⟨b, o, rfl, hbb, hc⟩ := HA.out (by omega)
      obtain ⟨e, hee⟩ : ∃ e, es[q]? = some e := ⟨_, List.getElem?_eq_getElem hlt⟩
      obtain ⟨f0, f1, t0, t1⟩ := HG.out e (List.mem_of_getElem? hee)
      have e0 := (hbel.cell (p := ⟨b, o + q * 3, none⟩) hbb).trans (hc q _ hee 0 _ rfl)
      have e1 := (hbel.cell (p := ⟨b, o + q * 3 + 1, none⟩) hbb).trans (hc q _ hee 1 _ rfl)
      have e2 := (hbel.cell (p := ⟨b, o + q * 3 + 2, none⟩) hbb).trans (hc q _ hee 2 _ rfl)
      have ST := hopsV_step es hee
      obtain ⟨ef, et, eg⟩ := e
      simp only at f0 f1 t0 t1 e0 e1 e2 ST
      obtain ⟨fn, rfl⟩ : ∃ fn : Nat, ef = (fn : Int) := ⟨ef.toNat, by omega⟩
      have HST := Lib.hid ST
      have E9 := Bk.new wr 46 #[.int .i64 (fn : Int), .int .i64 et, .int .i64 eg]
      have WB := Below.of_alloc wr (.cells #[.int .i64 (fn : Int), .int .i64 et, .int .i64 eg] 46)
      have R9 := Lib.hid (hrow.old WB)
      have B9 := Lib.hid (hbel.trans (WB.mono Sr))
      have Z9 : (wr.alloc (.cells #[.int .i64 (fn : Int), .int .i64 et, .int .i64 eg] 46)).heap.size = wr.heap.size + 1 := by simp
      have HZ9 := Lib.hid Z9
      clear Z9
      clear hc hee ST hrow hbel WB
      go_wp2_with fail
      clear e0 e1 e2
      generalize (wr.alloc (.cells #[.int .i64 (fn : Int), .int .i64 et, .int .i64 eg] 46)) = W9 at *
      obtain ⟨rv, hrv⟩ : ∃ rv, vs[fn]? = some rv := ⟨_, List.getElem?_eq_getElem (by have := R9.out.len; omega)⟩
      have own9 := (R9.out.row fn rv hrv).1
      have mcell : W9.cell? ⟨w.heap.size + 1, fn, none⟩ = some rv := by have := R9.out.blk.cell fn; rw [List.getElem?_toArray] at this; exact this.trans hrv
      have mlt := R9.out.blk.lt
      have elt := E9.lt
      have hlen : (hopsV (es.take q) fn).length ≤ 600 := by
        unfold hopsV; rw [List.length_map]
        exact Nat.le_trans (List.length_filter_le _ _) (by rw [List.length_take]; omega)
      obtain ⟨i0, hi0, hz0, hz1, hz2⟩ := info_parts infoHop
      refine wp_region_zs (fun w' => w'.cell? ⟨wr.heap.size, 0, none⟩ = some (.int .i64 (fn : Int)) ∧ w'.cell? ⟨wr.heap.size, 1, none⟩ = some (.int .i64 et) ∧ w'.cell? ⟨wr.heap.size, 2, none⟩ = some (.int .i64 eg) ∧ w'.cell? ⟨w.heap.size + 1, fn, none⟩ = some rv) [16] (by kernel_rfl) ?_
      refine wpZ_batch (is := [0, 1, 2, 3, 4, 5, 6, 7, 8, 9, 10, 11, 12]) (by kernel_rfl) ⟨E9.cell 0, E9.cell 1, E9.cell 2, mcell⟩ (a1 := ?_) ?_ ?_
      rotate_left
      · repeat
          (refine SeqY.run (v := ?_) rfl (by rfl) ?_ ?_
           rotate_left
           · (intro W hS; (try dsimp only at hS); go_simp; (try with_reducible rfl)))
        exact SeqY.nil
      refine wpZ_one (i := 13) (by kernel_rfl) rfl (fun K hK => ?_)
      go_simp
      have E10 := (E9.drew).alloc (.cells #[.int .i64 et, .int .i64 eg] 94)
      have mcell2 : (W9.drew.alloc (.cells #[.int .i64 et, .int .i64 eg] 94)).cell? ⟨w.heap.size + 1, fn, none⟩ = some rv := cell_later mcell
      refine hK.out _ _ ⟨E10.cell 0, E10.cell 1, E10.cell 2, mcell2⟩ (fun hS3 => ?_)
      clear hK K
      refine wpZ_one (i := 14) (by kernel_rfl) rfl (fun K hK => ?_)
      have ALB : Below W9.heap.size W9 (W9.drew.alloc (.cells #[.int .i64 et, .int .i64 eg] 94)) := (Below.refl _ _).drew.alloc (Nat.le_refl _) _
      have N10 : Bk (W9.drew.alloc (.cells #[.int .i64 et, .int .i64 eg] 94)) W9.heap.size 94 #[.int .i64 et, .int .i64 eg] := Bk.new W9.drew _ _
      have R10 := R9.out.old ALB
      refine step_append_own rfl (.tmp 23) (.tmp 29) 92 rfl 0 94 i0 (.agg #[.int .i64 0, .int .i64 0]) 2 16 Try.underlying92 hi0 hz0 hz1 hz2 rfl (by decide) rv (hopsV (es.take q) fn).length ((hopsV (es.take q) fn).flatMap encH) rfl (R10.row fn rv hrv).1
        ⟨W9.heap.size, 0, none⟩ 1 1 [.int .i64 et, .int .i64 eg] rfl rfl (fun j' u hj' => ?_) (by simp [Value.oneCell']) (by unfold maxLen; omega) (by omega) (Nat.zero_le _) ?_
      · have h := N10.cell j'
        have ea : (⟨W9.heap.size, 0, none⟩ : Addr).add j' = ⟨W9.heap.size, j', none⟩ := by unfold Addr.add; split <;> simp_all
        rw [ea]
        exact h.trans (by simpa using hj')
      intro v2 W2 hown2 hgrow hat
      have hv2 : ∃ A2 c2, v2 = .slice A2 ((hopsV (es.take q) fn).length + 1) c2 := by
        rcases hown2.2 with ⟨_, h0⟩ | ⟨_, _, _, rfl, _⟩
        · omega
        · exact ⟨_, _, rfl⟩
      obtain ⟨A2, c2, rfl⟩ := hv2
      have E11 := E10.grown hgrow (fun e => own_ne (R10.row fn rv hrv).1 e.symm E10 (by decide) rfl)
      have M11 := R10.blk.grown hgrow (fun e => own_ne (R10.row fn rv hrv).1 e.symm R10.blk (by decide) rfl)
      have mcell3 : W2.cell? ⟨w.heap.size + 1, fn, none⟩ = some rv := by have := M11.cell fn; rw [List.getElem?_toArray] at this; exact this.trans hrv
      have mf3 : W2.frozen? ⟨w.heap.size + 1, fn, none⟩ = false := M11.froz fn
      refine hK.out _ _ ⟨E11.cell 0, E11.cell 1, E11.cell 2, mcell3⟩ (fun hS4 => ?_)
      clear hK K
      have PU := R10.push (by decide) (m := (⟨et, eg⟩ : Hp)) hrv hown2 hgrow hat (by show w.heap.size + 2 ≤ _; have := ALB.size; omega)
      have PU2 := Lib.hid (PU.congr (f' := hopsV (es.take (q + 1))) (fun u _ => by
        rw [HST.out]
        by_cases e : u = fn
        · subst e; rw [if_pos rfl, if_pos rfl]; rfl
        · rw [if_neg (by omega), if_neg e, List.append_nil]))
      have BB := Lib.hid (((B9.out.trans (ALB.mono (by have := B9.out.size; omega))).grown hgrow (by have := ALB.size; omega) (fun g e => by have := (R10.row fn rv hrv).2 g e; omega)).setCell (p := ⟨w.heap.size + 1, fn, none⟩) (by simp only; omega) (.slice A2 ((hopsV (es.take q) fn).length + 1) c2))
      clear E9 E10 E11 R10 N10 M11 ALB hown2 hgrow hat PU hS3 mcell mcell2 own9
      refine wpZ_batch (is := [15]) (by kernel_rfl) hS4 (a1 := ?_) ?_ ?_
      rotate_left
      · repeat
          (refine SeqY.run (v := ?_) rfl (by rfl) ?_ ?_
           rotate_left
           · (intro W hS; (try dsimp only at hS); go_simp; (try with_reducible rfl)))
        exact SeqY.nil
      refine wpZ_end (i := 16) (by kernel_rfl) rfl (fun K hK => ?_)
      go_simp
      refine hK.out _ _ ?_
      clear hK K hS4
      refine wpZ_done (by kernel_rfl) ?_
      clear mcell3 mf3
      go_wp2
      go_roundw
      case rel => exact ⟨q + 1, _, by omega, by go_num, PU2.out, BB.out⟩
      case measure => simp [intOf]; omega
    · obtain rfl : q = es.length := by omega
      rw [List.take_length] at hrow
      have MX := Lib.hid (fun W' (hc : Chg (fun b => b < w.heap.size) wr W') => (hrow.chg hc (by omega) (fun g hg => by omega)).mx (fun _ => rfl) (by unfold maxLen; omega))
      clear hrow hbel
      go_wp2_with fail
      go_ret
      exact ⟨_, rfl, MX.out, HB.out⟩
end Go.Proofs.Ytbholafggbdieaa
