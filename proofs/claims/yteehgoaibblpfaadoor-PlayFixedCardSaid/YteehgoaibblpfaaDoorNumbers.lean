/- sheet.numbers: the numbers of a line; what is none is -1. -/
import Derived.Test.YteehgoaibblpfaaDoorWords
import Derived.WalkSpells
import Derived.WalkLawsBesides
import Derived.Outline
import Derived.OwnWalk
import Derived.Maps.AppendAt
namespace Go.Proofs.YteehgoaibblpfaaDoor
open Go.RowKit

def encI (n : Int) : List Value := [.int .i64 n]
def atoiN (l : List UInt8) : Int := if atoiOk l then atoiV l else -1
def numsL (l : List UInt8) : List Int := (wordsL l).map atoiN
theorem infoInt : (Tryd.prog.info? 3).map (fun i => (i.zero, i.size, i.bytes)) = some (some (.int .i64 0), 1, 8) := by kernel_rfl

theorem numsL_take {l : List UInt8} {k : Nat} {x : ByteArray} (h : (wordsB l)[k]? = some x) : (numsL l).take (k + 1) = (numsL l).take k ++ [atoiN x.data.toList] := by
  have : (numsL l)[k]? = some (atoiN x.data.toList) := by
    unfold numsL; rw [← wordsB_map]; simp [h]
  rw [List.take_add_one, this]; rfl
theorem flat_encI (l : List Int) : l.flatMap encI = l.map (Value.int .i64) := by
  induction l with
  | nil => rfl
  | cons x xs ih => simp [encI, ih]

set_option maxHeartbeats 1000000 in
theorem numbers_any (s : ByteArray) (hs : s.size ≤ 5000000) (w : World) (hE : Env w) :
    Calls Tryd.prog 21 #[.string s] w fun e w' => ∃ v, e = .returned v ∧ Sl 1 encI w' w'.heap.size v (numsL s.data.toList) ∧ Below w.heap.size w w' ∧ ∀ k, v.ownBlock = some k → w.heap.size ≤ k := by
  obtain ⟨i0, hi, hz0, hz1, hz2⟩ := info_parts infoInt
  have hN := wordsB_le s.data.toList
  have hsl : s.data.toList.length = s.size := by simp
  have HW := Lib.hid (fun x (h : x ∈ wordsB s.data.toList) => word_le h)
  rw [hsl] at hN
  have HNL := Lib.hid (show (numsL s.data.toList).length = (wordsB s.data.toList).length by rw [← wordsL_length]; simp [numsL])
  have SPL := Lib.hid (split_is s (by omega))
  generalize hlen : (wordsB s.data.toList).length = len at *
  have HL := Lib.hid hlen; clear hlen
  have HE := Lib.hid hE; clear hE
  have HS := Lib.hid hsl; clear hsl
  go_enter Tryd.func21, Tryd.ntmps21
  go_wp2_with (first
    | (go_at_call 30; refine (trim_is s (by omega) _).mono ?_; rintro e w' ⟨rfl, rfl⟩)
    | (go_at_call 29; refine (SPL.out _ HE.out).mono ?_; rintro e w1 ⟨rfl, rfl⟩))
  go_loopw [3, 5, 6, 7, 12] (fun v _ _ _ i wr => ∃ k : Nat, k ≤ len ∧ i = .int .i64 k ∧ wr.ownsRow w.heap.size 3 1 v k (((numsL s.data.toList).take k).map (Value.int .i64)) ∧
      Bk wr w.heap.size 9 ((wordsB s.data.toList).map Value.string).toArray ∧ Below w.heap.size w wr) (fun _ _ _ _ i wr => len - (intOf i).toNat)
  case atStart => exact ⟨0, Nat.zero_le _, rfl, World.ownsRow_nil _ _ _ _, Bk.new _ _ _, Below.of_alloc _ _⟩
  case round =>
    obtain ⟨k, hk, rfl, hown, hbk, hbel⟩ := hrel
    by_cases hlt : k < len
    · obtain ⟨x, hx⟩ : ∃ x, (wordsB s.data.toList)[k]? = some x := ⟨_, List.getElem?_eq_getElem (by rw [HL.out]; exact hlt)⟩
      have hc : wr.cell? ⟨w.heap.size, k, none⟩ = some (.string x) := by rw [hbk.cell]; simp [hx]
      have hxs : x.size ≤ 5000000 := by have := HW.out x (List.mem_of_getElem? hx); rw [HS.out] at this; omega
      have HT := Lib.hid (numsL_take hx)
      clear hx
      have hB0 := hbel.size
      have fin : ∀ (w2 w3 : World) (v' : Value), Below wr.heap.size wr w2 → w3.ownsRow w.heap.size 3 1 v' (k + 1) (((numsL s.data.toList).take k).map (Value.int .i64) ++ [.int .i64 (atoiN x.data.toList)]) →
          (w2.alloc (.cells #[.int .i64 (atoiN x.data.toList)] 3)).grownBy w3 u3.ownBlock → w3.ownsRow w.heap.size 3 1 v' (k + 1) (((numsL s.data.toList).take (k + 1)).map (Value.int .i64)) ∧ Bk w3 w.heap.size 9 ((wordsB s.data.toList).map Value.string).toArray ∧ Below w.heap.size w w3 := by
        intro w2 w3 v' hb ho hg
        have hne : u3.ownBlock ≠ some w.heap.size := by
          intro e
          obtain ⟨g, hg1, hg2⟩ : ∃ c fz, wr.heap[w.heap.size]? = some (.cells c 3 fz) := by
            rcases hown.2 with ⟨rfl, _⟩ | ⟨g', cap, cur, rfl, _, hgg, _⟩
            · simp [Value.ownBlock] at e
            · simp [Value.ownBlock] at e; subst e; exact ⟨_, _, hgg⟩
          unfold Bk at hbk
          rw [hbk] at hg2
          injection hg2 with h; injection h with _ h; exact absurd h (by decide)
        refine ⟨by rw [HT.out, List.map_append]; exact ho, ((hbk.old hb).alloc _).grown hg hne.symm, ?_⟩
        have h2 := hbel.trans (hb.mono hB0)
        exact (h2.alloc h2.size _).grown hg (by have := h2.size; simp; omega) (fun g e => (hown.lt g e).1)
      have FIN := Lib.hid fin; clear fin
      cases ho : atoiOk x.data.toList
      · have HO := Lib.hid ho; clear ho
        have HV : Hid (atoiN x.data.toList = -1) := by simp [Hid, atoiN, HO.out]
        go_wp2_with (first
          | (go_at_call 31; refine (atoi_no x (by omega) HO.out _ (HE.out.keep hbel)).mono ?_; rintro e w2 ⟨⟨N, rfl⟩, hb2⟩; have hown2 := hown.kept (row := none) ⟨hb2.os, hb2.tape, hb2.output, hb2.size, fun k hk _ => hb2.block k hk⟩ (by cases hv : u3.ownBlock <;> simp); have hB2 := hb2.size)
          | (at_builtin; refine wpList_append_own _ rfl _ _ 49 rfl w.heap.size 3 i0 (.int .i64 0) 1 8 Tryd.underlying49 hi hz0 hz1 hz2 rfl (by decide) _ _ _ rfl (hown2.alloc _) ⟨w2.heap.size, 0, none⟩ 1 1 [.int .i64 (-1)] rfl rfl (cell_one_new _ _ _) (by simp [Value.oneCell']) (by unfold maxLen; omega) (by omega) (by simp; omega) ?_; intro v' w3 hown3 hgrow _))
        rw [← HV.out] at hown3 hgrow
        obtain ⟨f1, f2, f3⟩ := FIN.out w2 w3 v' hb2 hown3 hgrow
        clear hown3 hgrow hown2 hown hc
        go_wp2
        go_roundw
        case rel => exact ⟨k + 1, by omega, by go_num, f1, f2, f3⟩
        case measure => simp [intOf]; omega
      · have HO := Lib.hid ho; clear ho
        have HV : Hid (atoiN x.data.toList = atoiV x.data.toList) := by simp [Hid, atoiN, HO.out]
        go_wp2_with (first
          | (go_at_call 31; refine (atoi_yes x (by omega) HO.out _ (HE.out.keep hbel)).mono ?_; rintro e w2 ⟨rfl, hb2⟩; have hown2 := hown.kept (row := none) ⟨hb2.os, hb2.tape, hb2.output, hb2.size, fun k hk _ => hb2.block k hk⟩ (by cases hv : u3.ownBlock <;> simp); have hB2 := hb2.size)
          | (at_builtin; refine wpList_append_own _ rfl _ _ 49 rfl w.heap.size 3 i0 (.int .i64 0) 1 8 Tryd.underlying49 hi hz0 hz1 hz2 rfl (by decide) _ _ _ rfl (hown2.alloc _) ⟨w2.heap.size, 0, none⟩ 1 1 [.int .i64 (atoiV x.data.toList)] rfl rfl (cell_one_new _ _ _) (by simp [Value.oneCell']) (by unfold maxLen; omega) (by omega) (by simp; omega) ?_; intro v' w3 hown3 hgrow _))
        rw [← HV.out] at hown3 hgrow
        obtain ⟨f1, f2, f3⟩ := FIN.out w2 w3 v' hb2 hown3 hgrow
        clear hown3 hgrow hown2 hown hc
        go_wp2
        go_roundw
        case rel => exact ⟨k + 1, by omega, by go_num, f1, f2, f3⟩
        case measure => simp [intOf]; omega
    · obtain rfl : k = len := by omega
      go_wp2
      go_ret
      refine ⟨_, rfl, ?_, hbel, fun k hk => (hown.lt k hk).1⟩
      refine Sl.of_own (base := w.heap.size) (e := 3) (fun _ => rfl) ?_
      rw [flat_encI, HNL.out]
      rw [List.take_of_length_le (by rw [HNL.out]; exact Nat.le_refl _)] at hown
      exact hown
end Go.Proofs.YteehgoaibblpfaaDoor
