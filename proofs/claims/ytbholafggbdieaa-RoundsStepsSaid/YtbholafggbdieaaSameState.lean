/- sameState of states that are the same. -/
import Derived.Test.YtbholafggbdieaaSame
import Derived.Test.YtbholafggbdieaaZones
import Derived.Test.YtbholafggbdieaaNextDefs
import Derived.Laws.StructEq
namespace Go.Proofs.Ytbholafggbdieaa
open Go.RowKit

theorem neqV (x y : Int) (w : World) : (binOp .neq 40 (.agg #[.int .i64 x, .int .i64 y]) (.agg #[.int .i64 x, .int .i64 y])).run Try.prog w = .ok (.bool false) w := by
  have hS : Try.prog.underlying 40 = some (.struct (Try.prog.fieldsOf 40)) := by kernel_rfl
  have hp : Try.prog.stoodInHeld 40 = false := by kernel_rfl
  have u3 := Try.underlying3
  have a3 := Try.isAgg3
  have z3 := Try.sizeOf3
  rw [run_neq_struct, show (10000 : Nat) = 9999 + 1 from rfl, run_equalIn_agg w 9999 40 _ _ hS hp]
  simp only [Program.fieldsOf, Try.underlying40]
  go_simp
theorem guardV (x y : Operand) (xs ys : Array Value) (w : World) : (eqGuard .neq 40 x y (.agg xs) (.agg ys)).run Try.prog w = .ok () w := run_eqGuard_agg w .neq 40 x y xs ys (by kernel_rfl)

set_option maxRecDepth 10000 in
set_option maxHeartbeats 2000000 in
theorem sameState_yes (s : Stt) (va ma vb mb : Value) (w : World) (ha : StR w s va ma) (hb : StR w s vb mb) :
    Calls Try.prog 16 #[.agg (stV s va ma), .agg (stV s vb mb)] w fun e w' => e = .returned (.bool true) ∧ Below w.heap.size w w' := by
  obtain ⟨⟨A1, c1, rfl, hac1, hcm1, hA1⟩, vs1, hvs1, ⟨M1, d1, rfl, hmc1, hmm1, hM1⟩, hR1⟩ := ha
  obtain ⟨⟨A2, c2, rfl, hac2, hcm2, hA2⟩, vs2, hvs2, ⟨M2, d2, rfl, hmc2, hmm2, hM2⟩, hR2⟩ := hb
  unfold maxLen at hcm1 hcm2 hmm1 hmm2
  rw [hvs1] at hmc1; rw [hvs2] at hmc2
  rw [hvs1]; rw [hvs2]
  have HA1 := Lib.hid hA1; have HA2 := Lib.hid hA2
  have HM1 := Lib.hid hM1; have HM2 := Lib.hid hM2
  have HR1 := Lib.hid hR1; have HR2 := Lib.hid hR2
  have HV1 := Lib.hid hvs1; have HV2 := Lib.hid hvs2
  clear hA1 hA2 hM1 hM2 hR1 hR2 hvs1 hvs2
  generalize hlen : s.vals.length = len at *
  generalize hmen : s.mail.length = men at *
  have HL := Lib.hid hlen; have HK := Lib.hid hmen; clear hlen hmen
  have tn : (((len : Nat) : Int) != ((len : Nat) : Int)) = false := by simp
  have tm : (((men : Nat) : Int) != ((men : Nat) : Int)) = false := by simp
  have t1 : (s.step != s.step) = false := by simp
  have t2 : (s.phase != s.phase) = false := by simp
  have t3 : (s.fresh != s.fresh) = false := by simp
  have t4 : (s.done != s.done) = false := by simp
  unfold stV
  go_enter Try.func16, Try.ntmps16
  go_wp2_with fail
  have B0 := (Below.of_alloc w (.cells #[.int .i64 s.step, .int .i64 s.phase, .bool s.fresh, .bool s.done, .slice A1 len c1, .slice M1 men d1] 32)).alloc (by simp) (.cells #[.int .i64 s.step, .int .i64 s.phase, .bool s.fresh, .bool s.done, .slice A2 len c2, .slice M2 men d2] 32)
  have b1 := (Bk.new w 32 #[.int .i64 s.step, .int .i64 s.phase, .bool s.fresh, .bool s.done, .slice A1 len c1, .slice M1 men d1]).alloc (.cells #[.int .i64 s.step, .int .i64 s.phase, .bool s.fresh, .bool s.done, .slice A2 len c2, .slice M2 men d2] 32)
  have b2 := Bk.new (w.alloc (.cells #[.int .i64 s.step, .int .i64 s.phase, .bool s.fresh, .bool s.done, .slice A1 len c1, .slice M1 men d1] 32)) 32 #[.int .i64 s.step, .int .i64 s.phase, .bool s.fresh, .bool s.done, .slice A2 len c2, .slice M2 men d2]
  simp only [World.size_alloc] at b2
  generalize hw1 : (w.alloc (.cells #[.int .i64 s.step, .int .i64 s.phase, .bool s.fresh, .bool s.done, .slice A1 len c1, .slice M1 men d1] 32)).alloc (.cells #[.int .i64 s.step, .int .i64 s.phase, .bool s.fresh, .bool s.done, .slice A2 len c2, .slice M2 men d2] 32) = w1 at *
  clear hw1
  have k1 : w1.cell? ⟨w.heap.size, 4, none⟩ = some (.slice A1 len c1) := b1.cell 4
  have k2 : w1.cell? ⟨w.heap.size + 1, 4, none⟩ = some (.slice A2 len c2) := b2.cell 4
  go_loopw [5] (fun i wr => ∃ k : Nat, k ≤ len ∧ i = .int .i64 k ∧ Below w.heap.size w wr ∧ Bk wr w.heap.size 32 #[.int .i64 s.step, .int .i64 s.phase, .bool s.fresh, .bool s.done, .slice A1 len c1, .slice M1 men d1] ∧ Bk wr (w.heap.size + 1) 32 #[.int .i64 s.step, .int .i64 s.phase, .bool s.fresh, .bool s.done, .slice A2 len c2, .slice M2 men d2]) (fun i _ => len - (intOf i).toNat)
  case atStart => exact ⟨0, Nat.zero_le _, rfl, B0, b1, b2⟩
  case round =>
    obtain ⟨k, hk, rfl, hbel, e1, e2⟩ := hrel
    have k1 : wr.cell? ⟨w.heap.size, 4, none⟩ = some (.slice A1 len c1) := e1.cell 4
    have k2 : wr.cell? ⟨w.heap.size + 1, 4, none⟩ = some (.slice A2 len c2) := e2.cell 4
    by_cases hlt : k < len
    · obtain ⟨b, o, rfl, hbb, hc⟩ := HA1.out (by omega)
      obtain ⟨p, q, rfl, hbb2, hc2⟩ := HA2.out (by omega)
      obtain ⟨x, hx⟩ : ∃ x, s.vals[k]? = some x := ⟨_, List.getElem?_eq_getElem (by rw [HL.out]; exact hlt)⟩
      obtain ⟨x0, x1⟩ := x
      have a0 : wr.cell? ⟨b, o + k * 2, none⟩ = some (.int .i64 x0) := (hbel.cell (p := ⟨b, _, none⟩) hbb).trans (by simpa using hc k _ hx 0 _ rfl)
      have a1 : wr.cell? ⟨b, o + k * 2 + 1, none⟩ = some (.int .i64 x1) := (hbel.cell (p := ⟨b, _, none⟩) hbb).trans (by simpa using hc k _ hx 1 _ rfl)
      have a2 : wr.cell? ⟨p, q + k * 2, none⟩ = some (.int .i64 x0) := (hbel.cell (p := ⟨p, _, none⟩) hbb2).trans (by simpa using hc2 k _ hx 0 _ rfl)
      have a3 : wr.cell? ⟨p, q + k * 2 + 1, none⟩ = some (.int .i64 x1) := (hbel.cell (p := ⟨p, _, none⟩) hbb2).trans (by simpa using hc2 k _ hx 1 _ rfl)
      have NV := neqV x0 x1
      have GV := guardV
      clear hx hc hc2
      go_wp2_with fail
      go_quiet (fail)
      go_wp2
      go_roundw
      case rel => exact ⟨k + 1, by omega, by go_num, below_drewN hbel nq, e1.drewN nq, e2.drewN nq⟩
      case measure => simp [intOf]; omega
    · obtain rfl : k = len := by omega
      have S0 := hbel.size
      go_wp2_with fail
      clear k1 k2
      generalize hwq : wr = wq at *
      clear hwq
      go_loopw [6] (fun i wr => ∃ m : Nat, m ≤ men ∧ i = .int .i64 m ∧ Below w.heap.size w wr ∧ Bk wr w.heap.size 32 #[.int .i64 s.step, .int .i64 s.phase, .bool s.fresh, .bool s.done, .slice A1 k c1, .slice M1 men d1] ∧ Bk wr (w.heap.size + 1) 32 #[.int .i64 s.step, .int .i64 s.phase, .bool s.fresh, .bool s.done, .slice A2 k c2, .slice M2 men d2]) (fun i _ => men - (intOf i).toNat)
      case atStart => exact ⟨0, Nat.zero_le _, rfl, hbel, e1, e2⟩
      case round =>
        obtain ⟨m, hm, rfl, hbm, f1, f2⟩ := hrel
        have k1 : wr.cell? ⟨w.heap.size, 5, none⟩ = some (.slice M1 men d1) := f1.cell 5
        have k2 : wr.cell? ⟨w.heap.size + 1, 5, none⟩ = some (.slice M2 men d2) := f2.cell 5
        by_cases hlt : m < men
        · obtain ⟨b, o, rfl, hbb, hc⟩ := HM1.out (by rw [HV1.out]; omega)
          obtain ⟨p, q, rfl, hbb2, hc2⟩ := HM2.out (by rw [HV2.out]; omega)
          obtain ⟨x, hx⟩ : ∃ x, vs1[m]? = some x := ⟨_, List.getElem?_eq_getElem (by rw [HV1.out]; exact hlt)⟩
          obtain ⟨y, hy⟩ : ∃ y, vs2[m]? = some y := ⟨_, List.getElem?_eq_getElem (by rw [HV2.out]; exact hlt)⟩
          obtain ⟨l, hl⟩ : ∃ l, s.mail[m]? = some l := ⟨_, List.getElem?_eq_getElem (by rw [HK.out]; exact hlt)⟩
          have a0 : wr.cell? ⟨b, o + m, none⟩ = some x := (hbm.cell (p := ⟨b, _, none⟩) hbb).trans (by simpa using hc m _ hx 0 _ rfl)
          have a2 : wr.cell? ⟨p, q + m, none⟩ = some y := (hbm.cell (p := ⟨p, _, none⟩) hbb2).trans (by simpa using hc2 m _ hy 0 _ rfl)
          have SX := (HR1.out m x l hx hl).below hbm |>.more hbm.size
          have SY := (HR2.out m y l hy hl).below hbm |>.more hbm.size
          have SM := Lib.hid (fun W (hW : Below wr.heap.size wr W) => sameInts_yes l x y W (SX.old hW) (SY.old hW))
          obtain ⟨AX, cx, ex⟩ := SX.shape
          obtain ⟨AY, cy, ey⟩ := SY.shape
          subst ex ey
          clear hx hy hl hc hc2 SX SY
          go_wp2_with fail
          refine wp_region_zs (fun w' => w'.cell? ⟨w.heap.size, 5, none⟩ = some (.slice (some ⟨b, o, none⟩) men d1) ∧ w'.cell? ⟨w.heap.size + 1, 5, none⟩ = some (.slice (some ⟨p, q, none⟩) men d2) ∧ w'.cell? ⟨b, o + m, none⟩ = some (.slice AX l.length cx) ∧ w'.cell? ⟨p, q + m, none⟩ = some (.slice AY l.length cy)) [] (by kernel_rfl) ?_
          refine wpZ_batch (is := [0, 1, 2, 3, 4, 5, 6, 7, 8, 9]) (by kernel_rfl) ⟨k1, k2, a0, a2⟩ (a1 := ?_) ?_ ?_
          rotate_left
          · repeat
              (refine SeqY.run (v := ?_) rfl (by rfl) ?_ ?_
               rotate_left
               · (intro W hS; (try dsimp only at hS); go_simp; (try with_reducible rfl)))
            exact SeqY.nil
          refine wpZ_one (i := 10) (by kernel_rfl) rfl (fun K hK => ?_)
          go_simp
          refine (SM.out _ (Below.refl _ _).drew).mono ?_
          rintro e w2 ⟨rfl, hb2⟩
          have hb2' : Below wr.heap.size wr w2 := (Below.refl _ _).drew.trans hb2
          have g1 := f1.old hb2'
          have g2 := f2.old hb2'
          have S1 := hbm.size
          refine hK.out _ _ ⟨g1.cell 5, g2.cell 5, (hb2'.cell (p := ⟨b, _, none⟩) (by simp; omega)).trans a0, (hb2'.cell (p := ⟨p, _, none⟩) (by simp; omega)).trans a2⟩ (fun hS2 => ?_)
          clear hK K
          refine wpZ_batch (is := [11]) (by kernel_rfl) hS2 (a1 := ?_) ?_ ?_
          rotate_left
          · repeat
              (refine SeqY.run (v := ?_) rfl (by rfl) ?_ ?_
               rotate_left
               · (intro W hS; (try dsimp only at hS); go_simp; (try with_reducible rfl)))
            exact SeqY.nil
          refine wpZ_done (by kernel_rfl) ?_
          go_wp2
          go_roundw
          case rel => exact ⟨m + 1, by omega, by go_num, hbm.trans (hb2'.mono hbm.size), g1, g2⟩
          case measure => simp [intOf]; omega
        · obtain rfl : m = men := by omega
          go_wp2_with fail
          go_ret
          exact ⟨rfl, hbm⟩
end Go.Proofs.Ytbholafggbdieaa
