/- play.move: a line, as far as it can be read as a move. -/
import Derived.Test.YteehgoaibblpfaaDoorPlayLine
import Derived.Test.YteehgoaibblpfaaDoorSheetWalks
import Derived.Deep.QuietTactic
import Derived.BigQuiet
import Derived.Deep.MidRow
import Derived.OwnWalk
namespace Go.Proofs.YteehgoaibblpfaaDoor
open Go.RowKit

def kindK (w : List UInt8) : Nat → Nat
  | 0 => 0
  | k + 1 => if (formsL[k]?.map (·.1)) = some w then k + 1 else kindK w k
def numK (ws : List (List UInt8)) : Nat → Int × Int
  | 0 => (0, 0)
  | j + 1 => if j = 0 then (atoiV (ws[1]?.getD []), 0) else ((numK ws j).1, atoiV (ws[j + 1]?.getD []))
def moveG (l : List UInt8) : Mv := ⟨kindK ((wordsL l)[0]?.getD []) 8, (numK (wordsL l) ((wordsL l).length - 1)).1, (numK (wordsL l) ((wordsL l).length - 1)).2⟩

def tabV : Value := .agg (formsL.flatMap encF).toArray
theorem tab_0 (w : World) : (Instr.index 75 tabV (.int .i64 0)).run Tryd.prog w = .ok (.agg #[.string ⟨#[119, 111, 114, 107]⟩, .bool true, .bool false]) w := by kernel_rfl
theorem tab_1 (w : World) : (Instr.index 75 tabV (.int .i64 1)).run Tryd.prog w = .ok (.agg #[.string ⟨#[99, 97, 114, 114, 121]⟩, .bool true, .bool false]) w := by kernel_rfl
theorem tab_2 (w : World) : (Instr.index 75 tabV (.int .i64 2)).run Tryd.prog w = .ok (.agg #[.string ⟨#[108, 111, 115, 101]⟩, .bool true, .bool false]) w := by kernel_rfl
theorem tab_3 (w : World) : (Instr.index 75 tabV (.int .i64 3)).run Tryd.prog w = .ok (.agg #[.string ⟨#[100, 111, 117, 98, 108, 101]⟩, .bool true, .bool false]) w := by kernel_rfl
theorem tab_4 (w : World) : (Instr.index 75 tabV (.int .i64 4)).run Tryd.prog w = .ok (.agg #[.string ⟨#[97, 108, 108]⟩, .bool false, .bool false]) w := by kernel_rfl
theorem tab_5 (w : World) : (Instr.index 75 tabV (.int .i64 5)).run Tryd.prog w = .ok (.agg #[.string ⟨#[99, 114, 97, 115, 104]⟩, .bool true, .bool true]) w := by kernel_rfl
theorem tab_6 (w : World) : (Instr.index 75 tabV (.int .i64 6)).run Tryd.prog w = .ok (.agg #[.string ⟨#[115, 116, 97, 114, 116]⟩, .bool true, .bool false]) w := by kernel_rfl
theorem tab_7 (w : World) : (Instr.index 75 tabV (.int .i64 7)).run Tryd.prog w = .ok (.agg #[.string ⟨#[108, 101, 97, 100]⟩, .bool false, .bool false]) w := by kernel_rfl
theorem tab_at {k : Nat} {f : List UInt8 × Bool × Bool} (hf : formsL[k]? = some f) (w : World) : (Instr.index 75 tabV (.int .i64 k)).run Tryd.prog w = .ok (.agg (encF f).toArray) w := by
  have hk : k < 8 := (List.getElem?_eq_some_iff.1 hf).1
  rcases (show k = 0 ∨ k = 1 ∨ k = 2 ∨ k = 3 ∨ k = 4 ∨ k = 5 ∨ k = 6 ∨ k = 7 by omega) with rfl | rfl | rfl | rfl | rfl | rfl | rfl | rfl
  · cases hf; exact tab_0 w
  · cases hf; exact tab_1 w
  · cases hf; exact tab_2 w
  · cases hf; exact tab_3 w
  · cases hf; exact tab_4 w
  · cases hf; exact tab_5 w
  · cases hf; exact tab_6 w
  · cases hf; exact tab_7 w
theorem formsV {w : World} {ops : Array Oper} {rest : List Oper} {op : Oper} {a : Act} {Q : Exit → Act → World → Prop} (h : Forms w) (hgd : op.guard = none) (ho : op.op = .load 75 (.global 0))
    (hw : wpList Tryd.prog ops Q rest (a.put op.dst tabV) w) : wpList Tryd.prog ops Q (op :: rest) a w := by
  refine wpList_load_mid hgd _ _ ho 0 0 rfl (formsL.flatMap encF) _ (fun j v hv => ?_) Tryd.underlying75 rfl (by kernel_rfl) hw
  have hj : j < 24 := (List.getElem?_eq_some_iff.1 hv).1
  obtain ⟨f, hf⟩ : ∃ f, formsL[j / 3]? = some f := ⟨_, List.getElem?_eq_getElem (by have : formsL.length = 8 := rfl; omega)⟩
  obtain ⟨u, hu⟩ : ∃ u, (encF f)[j % 3]? = some u := ⟨_, List.getElem?_eq_getElem (by simp [encF]; omega)⟩
  have h1 := h.at_ _ f hf _ u hu
  have h2 := flat_at (enc := encF) (fun _ => rfl) formsL _ f hf _ u hu (Nat.mod_lt _ (by decide))
  rw [show j / 3 * 3 + j % 3 = j by omega] at h1 h2
  rw [h2] at hv
  cases hv
  rw [Nat.zero_add]; exact h1

theorem below_drewN {B : Nat} {w w' : World} (h : Below B w w') (n : Nat) : Below B w (w'.drewN n) := ⟨h.os, h.tape, h.output, h.size, h.block⟩
theorem kind_step {k : Nat} {f : List UInt8 × Bool × Bool} (hf : formsL[k]? = some f) (x : ByteArray) : kindK x.toList (k + 1) = if (f.1 == x.toList) = true then k + 1 else kindK x.toList k := by
  rw [kindK, hf]; simp

set_option maxRecDepth 10000 in
set_option maxHeartbeats 1000000 in
theorem move_any (s : ByteArray) (hs : s.size ≤ 5000000) (w : World) (hE : Env w) (hF : Forms w) :
    Calls Tryd.prog 24 #[.string s] w fun e w' => e = .returned (.agg (encM (moveG s.data.toList)).toArray) ∧ Below w.heap.size w w' := by
  have hsl : s.data.toList.length = s.size := by simp
  have HW := Lib.hid (fun x (h : x ∈ wordsB s.data.toList) => word_le h)
  have SPL := Lib.hid (split_is s (by omega))
  have hN := wordsB_le s.data.toList
  rw [hsl] at hN
  have hpos : 0 < (wordsB s.data.toList).length := by rw [wordsB_length]; omega
  obtain ⟨x0, hx0⟩ : ∃ x, (wordsB s.data.toList)[0]? = some x := ⟨_, List.getElem?_eq_getElem hpos⟩
  have HX0 := Lib.hid hx0
  generalize hlen : (wordsB s.data.toList).length = len at *
  have HL := Lib.hid hlen; clear hlen
  have HE := Lib.hid hE; clear hE
  have HS := Lib.hid hsl; clear hsl hx0
  have LD := Lib.hid fun o1 o2 o3 => (hF.keep (((Below.of_alloc w o1).alloc (by simp) o2).alloc (by simp; omega) o3))
  clear hF
  go_enter Tryd.func24, Tryd.ntmps24
  go_wp2_with (first
    | (go_at_call 30; refine (trim_is s (by omega) _).mono ?_; rintro e w' ⟨rfl, rfl⟩)
    | (go_at_call 29; refine (SPL.out _ (HE.out.keep ((Below.of_alloc _ _).alloc (by simp) _))).mono ?_; rintro e w1 ⟨rfl, rfl⟩)
    | refine formsV (LD.out _ _ _) rfl rfl ?_)
  go_loopw [5, 6, 15] (fun _ _ i wr => ∃ k : Nat, k ≤ 8 ∧ i = .int .i64 k ∧ Bk wr (w.heap.size + 1) 37 #[.int .i64 (kindK x0.toList k), .int .i64 0, .int .i64 0] ∧ Bk wr w.heap.size 37 #[.int .i64 0, .int .i64 0, .int .i64 0] ∧
      Bk wr (w.heap.size + 1 + 1) 9 ((wordsB s.data.toList).map Value.string).toArray ∧ Below w.heap.size w wr) (fun _ _ i wr => 8 - (intOf i).toNat)
  case atStart => exact ⟨0, by omega, rfl, (show Bk _ (w.heap.size + 1) _ _ by have := (Bk.new (w.alloc (.cells #[.int .i64 0, .int .i64 0, .int .i64 0] 37)) 37 #[.int .i64 0, .int .i64 0, .int .i64 0]).alloc (.cells ((wordsB s.data.toList).map Value.string).toArray 9); rw [World.size_alloc] at this; exact this), ((Bk.new w _ _).alloc _).alloc _, by simpa using Bk.new ((w.alloc (.cells #[.int .i64 0, .int .i64 0, .int .i64 0] 37)).alloc (.cells #[.int .i64 0, .int .i64 0, .int .i64 0] 37)) 9 ((wordsB s.data.toList).map Value.string).toArray, ((Below.of_alloc _ _).alloc (by simp) _).alloc (by simp; omega) _⟩
  case round =>
    obtain ⟨k, hk, hi', hm, hr, hws, hbel⟩ := hrel
    by_cases hlt : k < 8
    · subst hi'
      obtain ⟨f, hf⟩ : ∃ f, formsL[k]? = some f := ⟨_, List.getElem?_eq_getElem hlt⟩
      have hT := tab_at hf
      have hst := kind_step hf x0
      have hc := hws.cell 0
      rw [show (((wordsB s.data.toList).map Value.string).toArray)[0]? = some (.string x0) by simp [HX0.out]] at hc
      obtain ⟨fw, fa, fk⟩ := f
      simp only [encF] at hT
      clear hf
      have cm := hm.cell 0
      have fm := hm.froz 0
      simp only [List.getElem?_toArray] at cm
      have hcA := fun o => cell_later (o := o) hc
      have hB := hbel.size
      have HWS := Lib.hid hws; have HR := Lib.hid hr
      cases hq : (fw == x0.toList)
      · rw [hq, if_neg (by simp)] at hst
        go_wp2_with fail
        go_quiet (fail)
        go_wp2
        go_roundw
        case rel => exact ⟨k + 1, by omega, by go_num, by rw [hst]; exact (hm.alloc _).drewN nq, (HR.out.alloc _).drewN nq, (HWS.out.alloc _).drewN nq, below_drewN (hbel.alloc hB _) nq⟩
        case measure => simp [intOf]; omega
      · rw [hq, if_pos rfl] at hst
        go_wp2_with fail
        go_quiet (fail)
        have hm2 := (hm.alloc (.cells #[.string ⟨fw.toArray⟩, .bool fa, .bool fk] 74)).drewN nq
        have cm2 := hm2.cell 0
        have fm2 := hm2.froz 0
        simp only [List.getElem?_toArray] at cm2
        have HM2 := Lib.hid hm2
        clear hm2 hm cm fm
        go_wp2
        go_roundw
        case rel => exact ⟨k + 1, by omega, by go_num, by rw [hst]; exact HM2.out.set 0 _, ((HR.out.alloc _).drewN nq).far (by simp) _, ((HWS.out.alloc _).drewN nq).far (by simp) _, (below_drewN (hbel.alloc hB _) nq).setCell (p := ⟨w.heap.size + 1, 0, none⟩) (by simp) _⟩
        case measure => simp [intOf]; omega
    · obtain rfl : k = 8 := by omega
      obtain rfl : u15 = .int .i64 8 := hi'
      have HWS := Lib.hid hws; have HR := Lib.hid hr; have HM := Lib.hid hm
      have hB := hbel.size
      clear hws hr hm
      rcases (show len = 1 ∨ 1 < len by omega) with rfl | h1
      · have FIN : Hid (moveG s.data.toList = ⟨kindK x0.toList 8, 0, 0⟩) := by
          have e0 : (wordsL s.data.toList)[0]? = some x0.toList := by rw [← wordsB_map, List.getElem?_map, HX0.out, toList_eq]; rfl
          have e1 : (wordsL s.data.toList).length = 1 := by rw [wordsL_length, HL.out]
          unfold Hid moveG
          rw [e0, e1]; rfl
        go_wp2
        go_loopw [32] (fun i w' => i = .int .i64 0 ∧ w' = wr) (fun _ _ => 0)
        case atStart => exact ⟨rfl, rfl⟩
        case round =>
          obtain ⟨rfl, rfl⟩ := hrel
          have cm0 := HM.out.cell 0
          have cm1 := HM.out.cell 1
          have cm2 := HM.out.cell 2
          have cr0 := HR.out.cell 0
          have cr1 := HR.out.cell 1
          have cr2 := HR.out.cell 2
          have fr0 := HR.out.froz 0
          have fr1 := HR.out.froz 1
          have fr2 := HR.out.froz 2
          simp only [List.getElem?_toArray] at cm0 cm1 cm2 cr0 cr1 cr2
          go_wp2
          have RB := ((HR.out.set 0 (.int .i64 (kindK x0.toList 8))).set 1 (.int .i64 0)).set 2 (.int .i64 0)
          have d0 := (RB.cell 0).trans (show _ = some (Value.int .i64 (kindK x0.toList 8)) from rfl)
          have d1 := (RB.cell 1).trans (show _ = some (Value.int .i64 0) from rfl)
          have d2 := (RB.cell 2).trans (show _ = some (Value.int .i64 0) from rfl)
          refine bodyPost_ret (v := .agg #[.int .i64 (kindK x0.toList 8), .int .i64 0, .int .i64 0]) ?_ rfl ⟨by rw [FIN.out]; rfl, ((hbel.setCell (p := ⟨w.heap.size, 0, none⟩) (Nat.le_refl _) _).setCell (p := ⟨w.heap.size, 1, none⟩) (Nat.le_refl _) _).setCell (p := ⟨w.heap.size, 2, none⟩) (Nat.le_refl _) _⟩
          simp [results, Tryd.f24, go_sem, d0, d1, d2]
      · have FIN : Hid (moveG s.data.toList = ⟨kindK x0.toList 8, (numK (wordsL s.data.toList) (len - 1)).1, (numK (wordsL s.data.toList) (len - 1)).2⟩) := by
          have e0 : (wordsL s.data.toList)[0]? = some x0.toList := by rw [← wordsB_map, List.getElem?_map, HX0.out, toList_eq]; rfl
          have e1 : (wordsL s.data.toList).length = len := by rw [wordsL_length, HL.out]
          unfold Hid moveG
          rw [e0, e1]; rfl
        have STEP : Hid (∀ j x, (wordsB s.data.toList)[j + 1]? = some x → numK (wordsL s.data.toList) (j + 1) = if j = 0 then (atoiV x.data.toList, 0) else ((numK (wordsL s.data.toList) j).1, atoiV x.data.toList)) := by
          intro j x hx
          have hw : (wordsL s.data.toList)[j + 1]? = some x.data.toList := by rw [← wordsB_map, List.getElem?_map, hx]; rfl
          rw [numK]
          split
          · rename_i h0; subst h0; rw [hw]; rfl
          · rw [hw]; rfl
        have WL := Lib.hid (fun j x (h : (wordsB s.data.toList)[j]? = some x) => HW.out x (List.mem_of_getElem? h))
        go_wp2
        go_loopw [7, 8, 9, 10, 32] (fun _ _ _ _ i w' => ∃ j : Nat, j ≤ len - 1 ∧ i = .int .i64 j ∧ Bk w' (w.heap.size + 1) 37 #[.int .i64 (kindK x0.toList 8), .int .i64 (numK (wordsL s.data.toList) j).1, .int .i64 (numK (wordsL s.data.toList) j).2] ∧ Bk w' w.heap.size 37 #[.int .i64 0, .int .i64 0, .int .i64 0] ∧
          Bk w' (w.heap.size + 1 + 1) 9 ((wordsB s.data.toList).map Value.string).toArray ∧ Below w.heap.size w w') (fun _ _ _ _ i _ => len - 1 - (intOf i).toNat)
        case atStart => exact ⟨0, by omega, rfl, HM.out, HR.out, HWS.out, hbel⟩
        case round =>
          clear HM HR HWS hbel
          obtain ⟨j, hj, rfl, hm, hr, hws, hbel⟩ := hrel
          have HM := Lib.hid hm; have HR := Lib.hid hr; have HWS := Lib.hid hws
          have hB := hbel.size
          clear hr hws
          by_cases hlt : j < len - 1
          · obtain ⟨x, hx⟩ : ∃ x, (wordsB s.data.toList)[j + 1]? = some x := ⟨_, List.getElem?_eq_getElem (by rw [HL.out]; omega)⟩
            have hc : wr.cell? ⟨w.heap.size + 1 + 1, 1 + j, none⟩ = some (.string x) := by rw [HWS.out.cell, Nat.add_comm]; simp [hx]
            have hxs : x.size ≤ 5000000 := by have := WL.out _ x hx; rw [HS.out] at this; omega
            have hst := STEP.out j x hx
            have HEr := Lib.hid (HE.out.keep hbel)
            clear hx
            have fin : ∀ w2, Below wr.heap.size wr w2 → w2.cell? ⟨w.heap.size + 1, 1, none⟩ = some (.int .i64 (numK (wordsL s.data.toList) j).1) ∧ w2.cell? ⟨w.heap.size + 1, 2, none⟩ = some (.int .i64 (numK (wordsL s.data.toList) j).2) ∧ w2.frozen? ⟨w.heap.size + 1, 1, none⟩ = false ∧ w2.frozen? ⟨w.heap.size + 1, 2, none⟩ = false ∧ Below w.heap.size w w2 :=
              fun w2 hb => ⟨(HM.out.old hb).cell 1, (HM.out.old hb).cell 2, (HM.out.old hb).froz 1, (HM.out.old hb).froz 2, hbel.trans (hb.mono hB)⟩
            have FN := Lib.hid fin
            clear fin hm
            by_cases h0 : j = 0
            · subst h0
              rw [if_pos rfl] at hst
              have HST := Lib.hid hst
              clear hst
              go_wp2_with (go_at_call 31; refine (atoi_any x (by omega) _ HEr.out).mono ?_; rintro e w2 ⟨⟨v, rfl, _⟩, hb2⟩; obtain ⟨g1, g2, g3, g4, g5⟩ := FN.out _ hb2; have G5 := Lib.hid g5; have HB2 := Lib.hid hb2; clear hb2 g5)
              go_roundw
              case rel => exact ⟨1, by omega, by go_num, by rw [HST.out]; exact (HM.out.old HB2.out).set 1 _, (HR.out.old HB2.out).far (by simp) _, (HWS.out.old HB2.out).far (by simp) _, G5.out.setCell (p := ⟨w.heap.size + 1, 1, none⟩) (by simp) _⟩
              case measure => simp [intOf]; omega
            · rw [if_neg h0] at hst
              have HST := Lib.hid hst
              clear hst
              have t0 : ((j : Int) == 0) = false := by simp; omega
              go_wp2_with (go_at_call 31; refine (atoi_any x (by omega) _ HEr.out).mono ?_; rintro e w2 ⟨⟨v, rfl, _⟩, hb2⟩; obtain ⟨g1, g2, g3, g4, g5⟩ := FN.out _ hb2; have G5 := Lib.hid g5; have HB2 := Lib.hid hb2; clear hb2 g5)
              go_roundw
              case rel => exact ⟨j + 1, by omega, by go_num, by rw [HST.out]; exact (HM.out.old HB2.out).set 2 _, (HR.out.old HB2.out).far (by simp) _, (HWS.out.old HB2.out).far (by simp) _, G5.out.setCell (p := ⟨w.heap.size + 1, 2, none⟩) (by simp) _⟩
              case measure => simp [intOf]; omega
          · obtain rfl : j = len - 1 := by omega
            have cm0 := HM.out.cell 0
            have cm1 := HM.out.cell 1
            have cm2 := HM.out.cell 2
            have cr0 := HR.out.cell 0
            have cr1 := HR.out.cell 1
            have cr2 := HR.out.cell 2
            have fr0 := HR.out.froz 0
            have fr1 := HR.out.froz 1
            have fr2 := HR.out.froz 2
            simp only [List.getElem?_toArray] at cm0 cm1 cm2 cr0 cr1 cr2
            clear hm
            go_wp2
            have RB := ((HR.out.set 0 (.int .i64 (kindK x0.toList 8))).set 1 (.int .i64 (numK (wordsL s.data.toList) (len - 1)).1)).set 2 (.int .i64 (numK (wordsL s.data.toList) (len - 1)).2)
            have d0 := (RB.cell 0).trans (show _ = some (Value.int .i64 (kindK x0.toList 8)) from rfl)
            have d1 := (RB.cell 1).trans (show _ = some (Value.int .i64 (numK (wordsL s.data.toList) (len - 1)).1) from rfl)
            have d2 := (RB.cell 2).trans (show _ = some (Value.int .i64 (numK (wordsL s.data.toList) (len - 1)).2) from rfl)
            refine bodyPost_ret (v := .agg #[.int .i64 (kindK x0.toList 8), .int .i64 (numK (wordsL s.data.toList) (len - 1)).1, .int .i64 (numK (wordsL s.data.toList) (len - 1)).2]) ?_ rfl ⟨by rw [FIN.out]; rfl, ((hbel.setCell (p := ⟨w.heap.size, 0, none⟩) (Nat.le_refl _) _).setCell (p := ⟨w.heap.size, 1, none⟩) (Nat.le_refl _) _).setCell (p := ⟨w.heap.size, 2, none⟩) (Nat.le_refl _) _⟩
            simp [results, Tryd.f24, go_sem, d0, d1, d2]
end Go.Proofs.YteehgoaibblpfaaDoor
