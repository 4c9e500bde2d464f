/- container/heap.Push and Pop over spots. -/
import Derived.Test.YtbholafggbdieaaHeapLaw
namespace Go.Proofs.Ytbholafggbdieaa
open Go.RowKit

theorem slen_any (A : Option Addr) (n c : Nat) (w : World) : Calls Try.prog 107 #[.slice A n c] w fun e w' => e = .returned (.int .i64 n) ∧ w' = w := by
  go_enter Try.func107, Try.ntmps107
  go_wp2
  go_ret
  exact ⟨rfl, rfl⟩
theorem sp_append {l : List Sp} {x : Sp} {i : Nat} (h : i < l.length) : sp (l ++ [x]) i = sp l i := by
  unfold sp; rw [List.getElem?_append_left h]
theorem rowS_some {w : World} {v : Value} {l : List Sp} (h : RowS w v l) (h0 : 0 < l.length) : ∃ g c, v = .slice (some ⟨g, 0, none⟩) l.length c := by
  rcases h.2 with ⟨_, e⟩ | ⟨g, cap, cur, e, _⟩
  · omega
  · exact ⟨g, cap, e⟩
theorem chg_row {P g : Nat} {v v' : Value} {w w2 w3 : World} (h : Chg (fun b => b = P ∨ v.ownBlock = some b) w w2) (h2 : Chg (· = g) w2 w3) (hv : v'.ownBlock = some g) (ha : v'.ownBlock = v.ownBlock ∨ ∃ b, v'.ownBlock = some b ∧ w.heap.size ≤ b) : Chg (fun b => b = P ∨ v.ownBlock = some b) w w3 := by
  rcases ha with e | ⟨b, e, hb⟩
  · exact h.trans (h2.mono (fun b _ hb => .inr (by rw [← e, hv, hb])))
  · refine h.far h2 (fun i hi => ?_)
    rw [hv] at e
    injection e with e
    omega
def HPushR (P : Nat) (v : Value) (l : List Sp) (x : Sp) (w : World) (e : Ending) (w' : World) : Prop := e = .returned (.tuple #[]) ∧ ∃ l', l'.Perm (x :: l) ∧ HpOK l' l'.length ∧ StepS P v l' w w'

set_option maxRecDepth 10000 in
set_option maxHeartbeats 2000000 in
theorem hpush_any (P : Nat) (v : Value) (l : List Sp) (x : Sp) (w : World) (hm : SpM w P v l) (hl : l.length ≤ 90000) (hh : HpOK l l.length) :
    Calls Try.prog 41 #[heapV P, .iface 87 (.agg #[.int .i64 x.v, .int .i64 x.f])] w (HPushR P v l x w) := by
  have MP := fun W => meth_Push P W
  have SP := Lib.hid (spush_any P v l x w hm (by omega))
  have UP : HpUp (l ++ [x]) l.length := by
    refine ⟨by simp, fun i h0 hi hne => ?_, fun _ c hc0 hc hcp => by simp at hc; omega⟩
    have hi' : i < l.length := by simp at hi; omega
    have := hh i h0 hi'
    unfold ff at this ⊢
    rw [sp_append hi', sp_append (by omega)]
    exact this
  have HU := Lib.hid UP
  clear hm UP hh
  go_enter Try.func41, Try.ntmps41
  go_wp2_with fail
  refine Calls.mono SP.out ?_
  rintro e w2 ⟨rfl, v', hm2, hc2, hat⟩
  obtain ⟨hb2, hr2⟩ := hm2
  obtain ⟨g, c, rfl⟩ := rowS_some hr2 (by simp)
  have LL : (l ++ [x]).length = l.length + 1 := by simp
  rw [LL] at hb2 hr2 hat
  have p0 : w2.cell? ⟨P, 0, none⟩ = some (.slice (some ⟨g, 0, none⟩) (l.length + 1) c) := hb2.cell 0
  have ML := meth_Len P _ w2 p0
  have UPC := Lib.hid (up_any P g c (l.length + 1) (l ++ [x]) l.length w2 hb2 hr2 LL (by omega) HU.out)
  have SLN := Lib.hid (fun W => slen_any (some ⟨g, 0, none⟩) (l.length + 1) c W)
  have HB2 := Lib.hid hb2; have HC2 := Lib.hid hc2; have HAT := Lib.hid hat; have HR2 := Lib.hid hr2
  clear hb2 hr2 hc2 hat MP LL
  go_wp2_with fail
  refine Calls.mono (SLN.out _) ?_
  rintro e w3 ⟨rfl, rfl⟩
  go_wp2_with fail
  refine Calls.mono UPC.out ?_
  rintro e w4 ⟨rfl, l', hp, hok, hr4, hc4⟩
  have ngP : g ≠ P := own_ne HR2.out rfl HB2.out (by decide)
  have B4 := Lib.hid (HB2.out.chg hc4 (fun e => ngP e.symm))
  have C4 := Lib.hid (chg_row (v' := .slice (some ⟨g, 0, none⟩) (l.length + 1) c) HC2.out hc4 rfl HAT.out)
  have PM := Lib.hid (hp.trans (List.perm_append_singleton x l))
  have HOK := Lib.hid hok; have HR4 := Lib.hid hr4
  clear hp hok hr4 hc4 p0 ML
  go_wp2
  go_end0
  exact ⟨rfl, l', PM.out, HOK.out, _, ⟨B4.out, HR4.out⟩, C4.out, HAT.out⟩

def HPopR (P : Nat) (v : Value) (l : List Sp) (w : World) (e : Ending) (w' : World) : Prop := ∃ (x : Sp) (l' : List Sp), e = .returned (.iface 87 (.agg #[.int .i64 x.v, .int .i64 x.f])) ∧ l.Perm (x :: l') ∧ HpOK l' l'.length ∧ (∀ y ∈ l', x.f ≤ y.f) ∧ StepS P v l' w w'
set_option maxRecDepth 10000 in
set_option maxHeartbeats 2000000 in
theorem hpop_any (P : Nat) (v : Value) (l : List Sp) (w : World) (hm : SpM w P v l) (h0 : 0 < l.length) (hl : l.length ≤ 90000) (hh : HpOK l l.length) :
    Calls Try.prog 40 #[heapV P] w (HPopR P v l w) := by
  obtain ⟨hb, hr⟩ := hm
  obtain ⟨g, c, rfl⟩ := rowS_some hr h0
  obtain ⟨m, hm1⟩ : ∃ m, l.length = m + 1 := ⟨l.length - 1, by omega⟩
  have hmb : m ≤ 90000 := by omega
  have ngP : g ≠ P := own_ne hr rfl hb (by decide)
  have p0 : w.cell? ⟨P, 0, none⟩ = some (.slice (some ⟨g, 0, none⟩) (m + 1) c) := by rw [← hm1]; exact hb.cell 0
  have ML := meth_Len P _ w p0
  have MS := meth_Swap P _ w p0
  rw [hm1] at hb hr
  have SLN := Lib.hid (fun W => slen_any (some ⟨g, 0, none⟩) (m + 1) c W)
  have SW := Lib.hid (swap_any g c (m + 1) l 0 m w hr hm1 (by omega) (by omega))
  have HB := Lib.hid hb; have HR := Lib.hid hr; have HH := Lib.hid hh; have HM1 := Lib.hid hm1
  rw [hm1]
  clear hb hr hh hm1
  go_enter Try.func40, Try.ntmps40
  go_wp2_with fail
  refine Calls.mono (SLN.out _) ?_
  rintro e w1 ⟨rfl, rfl⟩
  go_wp2_with fail
  refine Calls.mono SW.out ?_
  rintro e w2 ⟨rfl, hr2, hc2⟩
  have hb2 := HB.out.chg hc2 (fun e => ngP e.symm)
  have LS : (swapL l 0 m).length = m + 1 := by rw [swapL_len]; exact HM1.out
  have DN0 : HpDn (swapL l 0 m) m 0 := by
    have hfs : ∀ k, ff (swapL l 0 m) k = if k = m then ff l 0 else if k = 0 then ff l m else ff l k := fun k => ff_swap (by rw [HM1.out]; omega) (by rw [HM1.out]; omega)
    refine ⟨by rw [LS]; omega, fun i hi0 hi hne => ?_, fun h => absurd h (by omega)⟩
    rw [hfs, hfs, if_neg (by omega), if_neg hne, if_neg (by omega), if_neg (by omega)]
    exact HH.out i hi0 (by rw [HM1.out]; omega)
  have DN := Lib.hid (down_any P g c (m + 1) (swapL l 0 m) m w2 hb2 hr2 LS (by rw [← HM1.out]; omega) (by omega) DN0)
  have HB2 := Lib.hid hb2; have HC2 := Lib.hid hc2; have HLS := Lib.hid LS
  clear hb2 hr2 hc2 LS DN0 p0 ML MS SW
  go_wp2_with fail
  refine Calls.mono DN.out ?_
  rintro e w3 ⟨b, rfl, l2, hp2, ⟨hok2, hkeep⟩, hr3, hc3⟩
  have hb3 := HB2.out.chg hc3 (fun e => ngP e.symm)
  have L2 : l2.length = m + 1 := hp2.length_eq.trans HLS.out
  have SPL : l2 = l2.take m ++ [sp l 0] := by
    have h1 : l2 = l2.take m ++ l2.drop m := (List.take_append_drop m l2).symm
    have h2 : l2.drop m = [sp l2 m] := by
      rw [List.drop_eq_getElem_cons (by omega), List.drop_eq_nil_of_le (by omega)]
      unfold sp; rw [List.getElem?_eq_getElem (by omega)]; rfl
    have h3 : sp l2 m = sp l 0 := by
      rw [hkeep m (Nat.le_refl _), sp_swap (by rw [HM1.out]; omega) (by rw [HM1.out]; omega), if_pos rfl]
    rw [h2, h3] at h1
    exact h1
  have LT : (l2.take m).length = m := by rw [List.length_take]; omega
  have PMT : l.Perm (sp l 0 :: l2.take m) := by
    have h1 : l2.Perm l := hp2.trans (swapL_perm (by rw [HM1.out]; omega) (by rw [HM1.out]; omega))
    rw [SPL] at h1
    exact h1.symm.trans (List.perm_append_singleton _ _)
  have spt : ∀ i, i < m → sp (l2.take m) i = sp l2 i := fun i hi => by
    unfold sp; rw [List.getElem?_take_of_lt hi]
  have OKT : HpOK (l2.take m) (l2.take m).length := by
    intro i hi0 hi
    rw [LT] at hi
    have := hok2 i hi0 hi
    unfold ff at this ⊢
    rw [spt i hi, spt _ (by omega)]
    exact this
  have MIN : ∀ y ∈ l2.take m, (sp l 0).f ≤ y.f := by
    intro y hy
    have hyl : y ∈ l := PMT.mem_iff.2 (List.mem_cons_of_mem _ hy)
    obtain ⟨k, hk, e⟩ := List.mem_iff_getElem.1 hyl
    have := hp_least HH.out k hk
    unfold ff at this
    have e2 : sp l k = y := by unfold sp; rw [List.getElem?_eq_getElem hk, e]; rfl
    rw [e2] at this
    exact this
  have r3' : RowS w3 (.slice (some ⟨g, 0, none⟩) (m + 1) c) (l2.take m ++ [sp l 0]) := by rw [← SPL]; exact hr3
  have PO := Lib.hid (spop_any P _ (l2.take m) (sp l 0) w3 ⟨hb3, r3'⟩ (by rw [LT]; have := HM1.out; omega))
  have CC := Lib.hid ((HC2.out.trans hc3).mono (T := fun b => b = P ∨ (Value.slice (some ⟨g, 0, none⟩) (m + 1) c).ownBlock = some b) (fun b _ e => .inr (by rw [e]; rfl)))
  have MP := meth_Pop P w3
  have H1 := Lib.hid PMT; have H2 := Lib.hid OKT; have H3 := Lib.hid MIN
  clear hp2 hok2 hkeep hr3 hc3 hb3 L2 SPL LT PMT spt OKT MIN r3' DN
  go_wp2_with fail
  refine Calls.mono PO.out ?_
  rintro e w4 ⟨rfl, v', hm4, hc4, hat4⟩
  have C4 := Lib.hid (CC.out.trans (hc4.mono (fun b _ e => e)))
  have AT4 : Hid (v'.ownBlock = (Value.slice (some ⟨g, 0, none⟩) (m + 1) c).ownBlock ∨ ∃ b, v'.ownBlock = some b ∧ w1.heap.size ≤ b) := by
    rcases hat4 with e | ⟨b, e, hb⟩
    · exact .inl e
    · exact .inr ⟨b, e, Nat.le_trans CC.out.size hb⟩
  have HM4 := Lib.hid hm4
  clear hm4 hc4 hat4 MP PO
  go_wp2
  go_ret
  exact ⟨_, _, rfl, H1.out, H2.out, H3.out, v', HM4.out, C4.out, AT4.out⟩
end Go.Proofs.Ytbholafggbdieaa
