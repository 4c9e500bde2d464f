/- round.say: what goes along the edges of a vertex. -/
import Derived.Test.YtbholafggbdieaaMailRows
import Derived.Test.YtbholafggbdieaaQuiet
import Derived.Test.YtbholafggbdieaaZones
namespace Go.Proofs.Ytbholafggbdieaa
open Go.RowKit

def wayM (go : Bool) (fr to v m : Int) : List (Int × Int) := if go = true ∧ fr = v then [(to, m)] else []
theorem lineG_ways (kind phase v : Int) (x : Vl) (e : Ed) : lineG kind phase v x e = wayM (outG kind phase) e.f e.t v (sayG kind x e.g) ++ wayM (inG kind phase) e.t e.f v (sayG kind x e.g) := rfl
theorem sayV_take {kind phase v : Int} {x : Vl} {es : List Ed} {k : Nat} {e : Ed} (h : es[k]? = some e) : sayV kind phase v x (es.take (k + 1)) = sayV kind phase v x (es.take k) ++ (wayM (outG kind phase) e.f e.t v (sayG kind x e.g) ++ wayM (inG kind phase) e.t e.f v (sayG kind x e.g)) := by
  unfold sayV; rw [List.take_add_one, h]; simp [List.flatMap_append, lineG_ways]
theorem wayM_len (go : Bool) (fr to v m : Int) : (wayM go fr to v m).length ≤ 1 := by unfold wayM; split <;> simp
theorem sayV_len (kind phase v : Int) (x : Vl) (es : List Ed) (k : Nat) : (sayV kind phase v x (es.take k)).length ≤ 2 * es.length := by
  have : ∀ l : List Ed, (sayV kind phase v x l).length ≤ 2 * l.length := by
    intro l
    induction l with
    | nil => simp [sayV]
    | cons e l ih =>
      unfold sayV at ih ⊢
      have h1 := wayM_len (outG kind phase) e.f e.t v (sayG kind x e.g)
      have h2 := wayM_len (inG kind phase) e.t e.f v (sayG kind x e.g)
      rw [List.flatMap_cons, List.length_append, lineG_ways, List.length_append, List.length_cons]
      omega
  have h := this (es.take k)
  simp at h
  omega
/-- What is said of edge k's first i ways. -/
def wayI (kind phase v : Int) (x : Vl) (e : Ed) (i : Nat) : List (Int × Int) :=
  (if 1 ≤ i then wayM (outG kind phase) e.f e.t v (sayG kind x e.g) else []) ++ (if 2 ≤ i then wayM (inG kind phase) e.t e.f v (sayG kind x e.g) else [])

def SayR (M n B0 : Nat) (ms : List (Int × Int)) (w : World) (e : Ending) (w' : World) : Prop :=
  e = .returned (.tuple #[]) ∧ ∃ vs, RowsM w' M n (B0 ≤ ·) ms vs ∧ Chg (fun k => k = M ∨ B0 ≤ k) w w'

set_option maxRecDepth 10000 in
set_option maxHeartbeats 2000000 in
theorem rsay_any (R M n B0 B : Nat) (j : Jb) (ev : Value) (s : Stt) (vv : Value) (c : Nat) (v : Int) (x : Vl) (phase : Int) (ms : List (Int × Int)) (vs : List Value) (w : World) (hj : GoodJ j) (hn : j.n = n)
    (hp : phase = 0 ∨ (phase = 1 ∧ j.kind = 3)) (hx : valB j.kind x = true) (hxa : x.a ≠ -1) (hsum : j.kind = 1 → ∀ e ∈ j.es, x.a + e.g ≤ 4398046511104) (hbig : ms.length + 2 * j.es.length ≤ 90000)
    (hR : Bk w R 64 (rndV j ev s vv (.slice (some ⟨M, 0, none⟩) n c) 0)) (he : Sl 3 encE w B ev j.es) (hB0 : B0 ≤ w.heap.size) (hBB : B ≤ B0) (hBM : B ≤ M) (hRB : R < B0)
    (hrow : RowsM w M n (B0 ≤ ·) ms vs) :
    Calls Try.prog 27 #[.pointer (some ⟨R, 0, none⟩), .int .i64 v, .agg #[.int .i64 x.a, .int .i64 x.l], .int .i64 phase] w (SayR M n B0 (ms ++ sayV j.kind phase v x j.es) w) := by
  have WY := Lib.hid (fun W => ways_any j.kind phase hj.kind hp W)
  have SY : Hid (∀ e ∈ j.es, ∀ W, Calls Try.prog 44 #[.int .i64 j.kind, .agg #[.int .i64 x.a, .int .i64 x.l], .int .i64 phase, .int .i64 e.g] W fun e' w' => e' = .returned (.tuple #[.int .i64 (sayG j.kind x e.g), .int .i64 0]) ∧ Below W.heap.size W w') := by
    intro e he W
    have := (checkG_zero hj.g).2.2.2 e he
    simp only [goodE, insB, Bool.and_eq_true, decide_eq_true_eq] at this
    exact say_any j.kind phase e.g x hj.kind hp hx hxa this.2.2.1 this.2.2.2 (fun h => hsum h e he) W
  have EN : Hid (∀ e ∈ j.es, (0 ≤ e.f ∧ e.f < n) ∧ (0 ≤ e.t ∧ e.t < n)) := by
    intro e he
    have := (checkG_zero hj.g).2.2.2 e he
    simp only [goodE, insB, Bool.and_eq_true, decide_eq_true_eq] at this
    omega
  have hRM : R ≠ M := Bk.ne hR hrow.blk (by decide)
  clear hj hsum hx
  obtain ⟨ni, es, kind, src⟩ := j
  obtain ⟨xa, xl⟩ := x
  simp only at *
  obtain ⟨A, ce, rfl, hac, hcm, hA⟩ := he
  unfold maxLen at hcm
  have HA := Lib.hid hA; clear hA
  have SLN := Lib.hid (sayV_len kind phase v ⟨xa, xl⟩ es)
  generalize hlen : es.length = len at *
  have HL := Lib.hid hlen; clear hlen
  have HROW := Lib.hid hrow; clear hrow
  unfold rndV at hR
  simp only at hR
  have k2 : w.cell? ⟨R, 2, none⟩ = some (.int .i64 kind) := hR.cell 2
  have hRw : R < w.heap.size := hR.lt
  have HR := Lib.hid hR; clear hR
  go_enter Try.func27, Try.ntmps27
  go_wp2_with fail
  refine (WY.out _).mono ?_
  rintro e w1 ⟨rfl, hb1⟩
  have HB1 := Lib.hid ((Below.of_alloc w _).trans (hb1.mono (by simp)))
  have hr1 := HR.out.old HB1.out
  have k0 : w1.cell? ⟨R, 0, none⟩ = some (.int .i64 ni) := hr1.cell 0
  have k1 : w1.cell? ⟨R, 1, none⟩ = some (.slice A len ce) := hr1.cell 1
  have hbx := (Bk.new w 40 #[.int .i64 xa, .int .i64 xl]).old hb1
  have HBX := Lib.hid hbx
  have HR1 := Lib.hid hr1
  clear hr1 hbx hb1
  go_wp2_with fail
  have hB1 := HB1.out.size
  go_loopw [35] (fun i wr => ∃ k vs, k ≤ len ∧ i = .int .i64 (k : Nat) ∧ RowsM wr M n (B0 ≤ ·) (ms ++ sayV kind phase v ⟨xa, xl⟩ (es.take k)) vs ∧ Chg (fun k => k = M ∨ B0 ≤ k) w wr ∧ Bk wr w.heap.size 40 #[.int .i64 xa, .int .i64 xl]) (fun i _ => len - (intOf i).toNat)
  case atStart => exact ⟨0, vs, Nat.zero_le _, rfl, by simpa [sayV] using HROW.out.old HB1.out, chg_of HB1.out _, HBX.out⟩
  case round =>
    obtain ⟨k, vs1, hk, rfl, hrow1, hchg, hbx⟩ := hrel
    have hB2 := hchg.size
    by_cases hlt : k < len
    · obtain ⟨b, o, rfl, hbb, hc⟩ := HA.out (by omega)
      obtain ⟨e, he⟩ : ∃ e, es[k]? = some e := ⟨_, List.getElem?_eq_getElem (by rw [HL.out]; exact hlt)⟩
      have far : ∀ j u, (encE e)[j]? = some u → wr.cell? ⟨b, o + k * 3 + j, none⟩ = some u := fun j u hu => (hchg.cell (p := ⟨b, _, none⟩) (by show b < _; omega) (by show ¬ (b = M ∨ B0 ≤ b); omega)).trans (hc k e he j u hu)
      have c0 := far 0 _ rfl
      have c1 := far 1 _ rfl
      have c2 := far 2 _ rfl
      simp only [Nat.add_zero] at c0
      have ST := Lib.hid (sayV_take (kind := kind) (phase := phase) (v := v) (x := ⟨xa, xl⟩) he)
      have SYE := Lib.hid (SY.out e (List.mem_of_getElem? he))
      obtain ⟨⟨ef0, ef1⟩, et0, et1⟩ := EN.out e (List.mem_of_getElem? he)
      clear he hc far
      obtain ⟨ef, et, eg⟩ := e
      simp only at c0 c1 c2 ef0 ef1 et0 et1
      have HROW1 := Lib.hid hrow1; have HC1 := Lib.hid hchg; have HBX1 := Lib.hid hbx
      clear hrow1 hchg hbx
      have IX : Hid (∀ i : Nat, i < 2 → ∃ (g : Bool) (fr to : Int), (∀ W, (Instr.index 99 (.agg #[.bool (outG kind phase), .int .i64 ef, .int .i64 et, .bool (inG kind phase), .int .i64 et, .int .i64 ef]) (.int .i64 (i : Int))).run Try.prog W = .ok (.agg #[.bool g, .int .i64 fr, .int .i64 to]) W) ∧
          0 ≤ to ∧ to < (n : Int) ∧ wayI kind phase v ⟨xa, xl⟩ ⟨ef, et, eg⟩ (i + 1) = wayI kind phase v ⟨xa, xl⟩ ⟨ef, et, eg⟩ i ++ wayM g fr to v (sayG kind ⟨xa, xl⟩ eg)) := by
        intro i hi
        obtain rfl | rfl : i = 0 ∨ i = 1 := by omega
        · exact ⟨outG kind phase, ef, et, fun W => by kernel_rfl, et0, et1, by simp [wayI]⟩
        · exact ⟨inG kind phase, et, ef, fun W => by kernel_rfl, ef0, ef1, by simp [wayI]⟩
      go_wp2_with fail
      generalize hWo : wr = Wo at *
      clear hWo
      go_loopw [52] (fun i wq => ∃ q vs, q ≤ 2 ∧ i = .int .i64 (q : Nat) ∧ RowsM wq M n (B0 ≤ ·) (ms ++ sayV kind phase v ⟨xa, xl⟩ (es.take k) ++ wayI kind phase v ⟨xa, xl⟩ ⟨ef, et, eg⟩ q) vs ∧ Chg (fun k => k = M ∨ B0 ≤ k) w wq ∧ Bk wq w.heap.size 40 #[.int .i64 xa, .int .i64 xl] ∧ Bk wq Wo.heap.size 46 #[.int .i64 ef, .int .i64 et, .int .i64 eg] ∧ Wo.heap.size < wq.heap.size) (fun i _ => 2 - (intOf i).toNat)
      case atStart => exact ⟨0, vs1, by omega, rfl, by simpa [wayI] using HROW1.out.old (Below.of_alloc _ _), HC1.out.alloc _, HBX1.out.alloc _, Bk.new _ _ _, by simp⟩
      case round =>
        obtain ⟨q, vs2, hq, rfl, hrow2, hchg2, hbx2, hbe2, hsz2⟩ := hrel
        have hB3 := hchg2.size
        have HROW2 := Lib.hid hrow2; have HC2 := Lib.hid hchg2; have HBX2 := Lib.hid hbx2; have HBE2 := Lib.hid hbe2
        clear hrow2 hchg2 hbx2 hbe2
        by_cases hlq : q < 2
        · obtain ⟨g, fr, to, hidx, to0, to1, hway⟩ := IX.out q hlq
          have HWAY := Lib.hid hway; clear hway
          cases g
          · have HW0 : Hid (wayM false fr to v (sayG kind ⟨xa, xl⟩ eg) = []) := by simp [Hid, wayM]
            go_wp2
            go_roundw
            case rel => exact ⟨q + 1, vs2, by omega, by go_num, by rw [HWAY.out, HW0.out, List.append_nil]; exact HROW2.out.old (Below.of_alloc _ _), HC2.out.alloc _, HBX2.out.alloc _, HBE2.out.alloc _, by simp; omega⟩
            case measure => simp [intOf]; omega
          by_cases hfv : fr = v
          · subst hfv
            go_wp2_with fail
            have R9 := (HR.out.chg HC2.out (show ¬ (R = M ∨ B0 ≤ R) by omega)).alloc (.cells #[.bool true, .int .i64 fr, .int .i64 to] 98)
            have X9 := HBX2.out.alloc (.cells #[.bool true, .int .i64 fr, .int .i64 to] 98)
            have E9 := HBE2.out.alloc (.cells #[.bool true, .int .i64 fr, .int .i64 to] 98)
            have Y9 := Bk.new wr 98 #[.bool true, .int .i64 fr, .int .i64 to]
            have M9 := Lib.hid (HROW2.out.old (Below.of_alloc wr (.cells #[.bool true, .int .i64 fr, .int .i64 to] 98)))
            have C9 := HC2.out.alloc (.cells #[.bool true, .int .i64 fr, .int .i64 to] 98)
            have sz9 : (wr.alloc (.cells #[.bool true, .int .i64 fr, .int .i64 to] 98)).heap.size = wr.heap.size + 1 := by simp
            generalize (wr.alloc (.cells #[.bool true, .int .i64 fr, .int .i64 to] 98)) = W9 at *
            refine wp_region_zs (fun w' => w'.cell? ⟨R, 2, none⟩ = some (.int .i64 kind) ∧ w'.cell? ⟨w.heap.size, 0, none⟩ = some (.int .i64 xa) ∧ w'.cell? ⟨w.heap.size, 1, none⟩ = some (.int .i64 xl) ∧ w'.cell? ⟨Wo.heap.size, 2, none⟩ = some (.int .i64 eg)) [] (by kernel_rfl) ?_
            refine wpZ_batch (is := [0, 1, 2, 3, 4, 5, 6, 7, 8]) (by kernel_rfl) ⟨R9.cell 2, X9.cell 0, X9.cell 1, E9.cell 2⟩ (a1 := ?_) ?_ ?_
            rotate_left
            · repeat
                (refine SeqY.run (v := ?_) rfl (by rfl) ?_ ?_
                 rotate_left
                 · (intro W hS; (try dsimp only at hS); go_simp; (try with_reducible rfl)))
              exact SeqY.nil
            refine wpZ_one (i := 9) (by kernel_rfl) rfl (fun K hK => ?_)
            go_simp
            refine (SYE.out _).mono ?_
            rintro e w2 ⟨rfl, hb2⟩
            have hb2' : Below W9.heap.size W9 w2 := (Below.refl _ _).drew.trans hb2
            have R2 := R9.old hb2'
            have X2 := X9.old hb2'
            have E2 := E9.old hb2'
            have Y2 := Y9.old hb2'
            have S2 := hb2'.size
            refine hK.out _ _ ⟨R2.cell 2, X2.cell 0, X2.cell 1, E2.cell 2⟩ (fun hS2 => ?_)
            clear hK K
            refine wpZ_batch (is := [10, 11, 12, 13, 14]) (by kernel_rfl) hS2 (a1 := ?_) ?_ ?_
            rotate_left
            · repeat
                (refine SeqY.run (v := ?_) rfl (by rfl) ?_ ?_
                 rotate_left
                 · (intro W hS; (try dsimp only at hS); go_simp; (try with_reducible rfl)))
              exact SeqY.nil
            refine wpZ_done (by kernel_rfl) ?_
            have M2 := Lib.hid (M9.out.old hb2')
            have C2 := Lib.hid (C9.add hb2')
            clear M9 C9 hb2 hS2 R9 X9 E9 Y9
            go_wp2_with fail
            obtain ⟨tn, rfl⟩ : ∃ tn : Nat, to = (tn : Int) := ⟨to.toNat, by omega⟩
            obtain ⟨i0, hi0, hz0, hz1, hz2⟩ := info_parts infoMail
            generalize hml : ms ++ sayV kind phase fr ⟨xa, xl⟩ (es.take k) ++ wayI kind phase fr ⟨xa, xl⟩ ⟨ef, et, eg⟩ q = mm at *
            have HLB : Hid (mm.length ≤ 100000) := by
              have h1 := SLN.out k
              have h2 : (wayI kind phase fr ⟨xa, xl⟩ ⟨ef, et, eg⟩ q).length ≤ 2 := by
                have a1 := wayM_len (outG kind phase) ef et fr (sayG kind ⟨xa, xl⟩ eg)
                have a2 := wayM_len (inG kind phase) et ef fr (sayG kind ⟨xa, xl⟩ eg)
                unfold wayI; rw [List.length_append]; split <;> split <;> simp <;> omega
              unfold Hid
              rw [← hml, List.length_append, List.length_append]
              omega
            have HML := Lib.hid hml; clear hml
            obtain ⟨rv, hrv⟩ : ∃ rv, vs2[tn]? = some rv := ⟨_, List.getElem?_eq_getElem (by have := M2.out.len; omega)⟩
            have own2 := (M2.out.row tn rv hrv).1
            have BL : (boxG mm tn).length ≤ 100000 := by
              have := HLB.out
              have h2 : (boxG mm tn).length ≤ mm.length := by unfold boxG; rw [List.length_map]; exact List.length_filter_le _ _
              omega
            have mcell : w2.cell? ⟨M, tn, none⟩ = some rv := by have := M2.out.blk.cell tn; rw [List.getElem?_toArray] at this; exact this.trans hrv
            have rcell : w2.cell? ⟨R, 9, none⟩ = some (.slice (some ⟨M, 0, none⟩) n c) := R2.cell 9
            have ycell : w2.cell? ⟨wr.heap.size, 2, none⟩ = some (.int .i64 (tn : Int)) := Y2.cell 2
            have tl : (tn : Int) < (n : Int) := to1
            have mf : w2.frozen? ⟨M, tn, none⟩ = false := M2.out.blk.froz tn
            generalize hmm : sayG kind ⟨xa, xl⟩ eg = mv at *
            have HMM := Lib.hid hmm; clear hmm
            refine wp_region_zs (fun w' => w'.cell? ⟨R, 9, none⟩ = some (.slice (some ⟨M, 0, none⟩) n c) ∧ w'.cell? ⟨wr.heap.size, 2, none⟩ = some (.int .i64 (tn : Int)) ∧ w'.cell? ⟨M, tn, none⟩ = some rv) [20] (by kernel_rfl) ?_
            refine wpZ_batch (is := [0, 1, 2, 3, 4, 5, 6, 7, 8, 9, 10, 11, 12, 13, 14, 15, 16]) (by kernel_rfl) ⟨rcell, ycell, mcell⟩ (a1 := ?_) ?_ ?_
            rotate_left
            · repeat
                (refine SeqY.run (v := ?_) rfl (by rfl) ?_ ?_
                 rotate_left
                 · (intro W hS; (try dsimp only at hS); go_simp; (try with_reducible rfl)))
              exact SeqY.nil
            refine wpZ_one (i := 17) (by kernel_rfl) rfl (fun K hK => ?_)
            go_simp
            have lt9 : R < w2.heap.size := R2.lt
            have ltY : wr.heap.size < w2.heap.size := Y2.lt
            have ltM : M < w2.heap.size := M2.out.blk.lt
            refine hK.out _ _ ⟨cell_later rcell, cell_later ycell, cell_later mcell⟩ (fun hS3 => ?_)
            clear hK K
            refine wpZ_one (i := 18) (by kernel_rfl) rfl (fun K hK => ?_)
            refine step_append_own rfl (.tmp 98) (.tmp 100) 38 rfl 0 3 i0 (.int .i64 0) 1 8 Try.underlying38 hi0 hz0 hz1 hz2 rfl (by decide) rv (boxG mm tn).length ((boxG mm tn).map (.int .i64)) rfl (own_old own2 ((Below.refl _ _).drew.alloc (Nat.le_refl _) _))
              ⟨w2.heap.size, 0, none⟩ 1 1 [.int .i64 mv] rfl rfl (cell_one_new _ _ _) (by simp [Value.oneCell']) (by unfold maxLen; omega) (by omega) (Nat.zero_le _) ?_
            intro v2 W2 hown2 hgrow hat
            have hv2 : ∃ A2 c2, v2 = .slice A2 ((boxG mm tn).length + 1) c2 := by
              rcases hown2.2 with ⟨_, h0⟩ | ⟨_, _, _, rfl, _⟩
              · omega
              · exact ⟨_, _, rfl⟩
            obtain ⟨A2, c2, rfl⟩ := hv2
            have ALB : Below w2.heap.size w2 (w2.drew.alloc (.cells #[.int .i64 mv] 3)) := (Below.refl _ _).drew.alloc (Nat.le_refl _) _
            have neB : ∀ {b : Nat} {t : TypeId} {cs : Array Value}, Bk w2 b t cs → 3 ≠ t → some b ≠ rv.ownBlock := fun hb ht e => own_ne own2 e.symm hb ht rfl
            have R3 := (R2.old ALB).grown hgrow (neB R2 (by decide))
            have X3 := (X2.old ALB).grown hgrow (neB X2 (by decide))
            have E3 := (E2.old ALB).grown hgrow (neB E2 (by decide))
            have Y3 := (Y2.old ALB).grown hgrow (neB Y2 (by decide))
            have M3 := (M2.out.blk.old ALB).grown hgrow (neB M2.out.blk (by decide))
            have mcell3 : W2.cell? ⟨M, tn, none⟩ = some rv := by have := M3.cell tn; rw [List.getElem?_toArray] at this; exact this.trans hrv
            have mf3 : W2.frozen? ⟨M, tn, none⟩ = false := M3.froz tn
            refine hK.out _ _ ⟨R3.cell 9, Y3.cell 2, mcell3⟩ (fun hS4 => ?_)
            clear hK K
            have S2' : w2.heap.size ≤ (w2.drew.alloc (.cells #[.int .i64 mv] 3)).heap.size := ALB.size
            have PU := Lib.hid (RowsM.push (M2.out.old ALB) hrv hown2 hgrow hat (show B0 ≤ _ by omega))
            have C3 := Lib.hid (((C2.out.add ALB).grown hgrow (fun g e _ => Or.inr ((M2.out.row tn rv hrv).2 g e))).setCell (p := ⟨M, tn, none⟩) (Or.inl rfl) (.slice A2 ((boxG mm tn).length + 1) c2))
            have X4 := Lib.hid (X3.far (p := ⟨M, tn, none⟩) (fun e => by have := Bk.ne X3 M3 (by decide); exact this e) (.slice A2 ((boxG mm tn).length + 1) c2))
            have E4 := Lib.hid (E3.far (p := ⟨M, tn, none⟩) (fun e => by have := Bk.ne E3 M3 (by decide); exact this e) (.slice A2 ((boxG mm tn).length + 1) c2))
            have Z4 : Hid (Wo.heap.size < (W2.setCell ⟨M, tn, none⟩ (.slice A2 ((boxG mm tn).length + 1) c2)).heap.size) := by have := E3.lt; unfold Hid; simpa [World.setCell] using this
            clear ALB neB R3 X3 E3 Y3 M3 hown2 hgrow hat R2 X2 E2 Y2 hS3 rcell ycell mcell own2
            refine wpZ_batch (is := [19]) (by kernel_rfl) hS4 (a1 := ?_) ?_ ?_
            rotate_left
            · repeat
                (refine SeqY.run (v := ?_) rfl (by rfl) ?_ ?_
                 rotate_left
                 · (intro W hS; (try dsimp only at hS); go_simp; (try with_reducible rfl)))
              exact SeqY.nil
            refine wpZ_end (i := 20) (by kernel_rfl) rfl (fun K hK => ?_)
            go_simp
            refine hK.out _ _ ?_
            refine wpZ_done (by kernel_rfl) ?_
            go_wp2
            go_roundw
            case rel => exact ⟨q + 1, vs2.set tn (.slice A2 ((boxG mm tn).length + 1) c2), by omega, by go_num, by rw [HWAY.out, ← List.append_assoc, HML.out, show wayM true fr (tn : Int) fr mv = [((tn : Int), mv)] by simp [wayM]]; exact PU.out, C3.out, X4.out, E4.out, Z4.out⟩
            case measure => simp [intOf]; omega
          · have HW0 : Hid (wayM true fr to v (sayG kind ⟨xa, xl⟩ eg) = []) := by simp [Hid, wayM, hfv]
            have tf : (fr != v) = true := bne_iff_ne.2 hfv
            go_wp2
            go_roundw
            case rel => exact ⟨q + 1, vs2, by omega, by go_num, by rw [HWAY.out, HW0.out, List.append_nil]; exact HROW2.out.old (Below.of_alloc _ _), HC2.out.alloc _, HBX2.out.alloc _, HBE2.out.alloc _, by simp; omega⟩
            case measure => simp [intOf]; omega
        · obtain rfl : q = 2 := by omega
          go_wp2
          go_roundw
          case rel => exact ⟨k + 1, vs2, by omega, by go_num, by rw [ST.out]; simpa [wayI] using HROW2.out, HC2.out, HBX2.out⟩
          case measure => simp [intOf]; omega
    · obtain rfl : k = len := by omega
      rw [List.take_of_length_le (by rw [HL.out]; exact Nat.le_refl _)] at hrow1
      have HR1' := Lib.hid hrow1; have HC1' := Lib.hid hchg
      clear hrow1 hchg
      go_wp2
      go_end0
      exact ⟨rfl, vs1, HR1'.out, HC1'.out⟩
end Go.Proofs.Ytbholafggbdieaa
