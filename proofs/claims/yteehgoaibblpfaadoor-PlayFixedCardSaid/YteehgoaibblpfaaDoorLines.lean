/- strings.Lines: its iterator hands over the lines of a text, one by one. -/
import Derived.Test.YteehgoaibblpfaaDoorShelf
import Derived.Test.YteehgoaibblpfaaDoorData
import Derived.Test.YteehgoaibblpfaaDoorRange
import Derived.RangeFuncBox
import Derived.WalkKit
import Derived.WalkSpells
import Derived.OwnWalkIn
import Derived.TacticsInMore
import Derived.LoopNIn
import Derived.LoopIn
import Derived.Outline
namespace Go.Proofs.YteehgoaibblpfaaDoor
open Go.RowKit
attribute [local go_sem] Oper.semAt_some

/-- The lines of a text: each ends with a line feed, or at the text's end. -/
def linesL : List UInt8 → List (List UInt8)
  | [] => []
  | c :: cs => if c = 10 then [c] :: linesL cs else match linesL cs with
    | [] => [[c]]
    | l :: ls => (c :: l) :: ls

theorem linesL_flat : ∀ l, (linesL l).flatten = l
  | [] => rfl
  | c :: cs => by
    have ih := linesL_flat cs
    unfold linesL
    split
    · simp [ih]
    · cases h : linesL cs with
      | nil => rw [h] at ih; simp at ih; simp [ih]
      | cons l ls => rw [h] at ih; simp at ih; simp [ih]
theorem linesL_ne : ∀ (l : List UInt8), l ≠ [] → linesL l ≠ []
  | [], h => absurd rfl h
  | c :: cs, _ => by
    unfold linesL
    split
    · simp
    · cases linesL cs <;> simp
theorem linesL_line : ∀ (a b : List UInt8), 10 ∉ a → linesL (a ++ 10 :: b) = (a ++ [10]) :: linesL b
  | [], b, _ => by simp [linesL]
  | c :: a, b, h => by
    have hc : c ≠ 10 := fun e => h (by simp [e])
    have ih := linesL_line a b (fun e => h (by simp [e]))
    rw [List.cons_append, linesL, if_neg hc, ih]; rfl
theorem linesL_last : ∀ (a : List UInt8), a ≠ [] → 10 ∉ a → linesL a = [a]
  | [], h, _ => absurd rfl h
  | [c], _, h => by
    have hc : c ≠ 10 := fun e => h (by simp [e])
    simp [linesL, hc]
  | c :: d :: a, _, h => by
    have hc : c ≠ 10 := fun e => h (by simp [e])
    have ih := linesL_last (d :: a) (by simp) (fun e => h (by simp [e]))
    rw [linesL, if_neg hc, ih]

theorem linesL_count : ∀ (l : List UInt8), (linesL l).length ≤ l.length
  | [] => Nat.le_refl _
  | c :: cs => by
    have ih := linesL_count cs
    unfold linesL
    split
    · simp; omega
    · cases h : linesL cs with
      | nil => simp
      | cons l ls => rw [h] at ih; simp at ih ⊢; omega
theorem mem_flat_le : ∀ {L : List (List UInt8)} {l : List UInt8}, l ∈ L → l.length ≤ L.flatten.length
  | [], _, h => by cases h
  | x :: L, l, h => by
    rcases List.mem_cons.1 h with rfl | h
    · simp
    · have := mem_flat_le h; rw [List.flatten_cons, List.length_append]; omega
theorem linesL_le {s l : List UInt8} (h : l ∈ linesL s) : l.length ≤ s.length := by
  have := mem_flat_le h; rw [linesL_flat] at this; exact this

theorem index_some : ∀ (l : List UInt8), 10 ∈ l → ∃ i : Nat, Lib.indexByte l 10 = i ∧ i < l.length ∧ l = l.take i ++ 10 :: l.drop (i + 1) ∧ 10 ∉ l.take i
  | [], h => by simp at h
  | b :: l, h => by
    by_cases hb : b = 10
    · subst hb
      exact ⟨0, by simp [Lib.indexByte], by simp, by simp, by simp⟩
    · obtain ⟨i, h1, h2, h3, h4⟩ := index_some l ((List.mem_cons.1 h).resolve_left (fun e => hb e.symm))
      refine ⟨i + 1, ?_, by simp; omega, ?_, ?_⟩
      · rw [Lib.indexByte, if_neg (by simpa using hb), h1, if_neg (by simp)]; simp
      · show b :: l = b :: (l.take i ++ 10 :: l.drop (i + 1)); rw [← h3]
      · simp only [List.take_succ_cons, List.mem_cons, not_or]; exact ⟨fun e => hb e.symm, h4⟩
theorem index_none : ∀ (l : List UInt8), 10 ∉ l → Lib.indexByte l 10 = -1
  | [], _ => rfl
  | b :: l, h => by
    have hb : b ≠ 10 := fun e => h (by simp [e])
    rw [Lib.indexByte, if_neg (by simpa using hb), index_none l (fun e => h (by simp [e]))]; rfl

theorem ibyte_is (r : ByteArray) (z : Int) (h : Lib.indexByte r.data.toList 10 = z) (w : World) :
    Calls Tryd.prog 28 #[.string r, .int .u8 10] w fun e w' => e = .returned (.int .i64 z) ∧ w = w' := by
  subst h; exact (Tryd.strings_IndexByte r 10 w).mono fun _ _ ⟨a, b⟩ => ⟨a, b.symm⟩

/-- The rest that block X holds stands behind a round that goes on. -/
def KpX (X : Nat) (W W' : World) : Prop := W.heap.size ≤ W'.heap.size ∧ W'.heap[X]? = W.heap[X]?

def leftX (X : Nat) (W : World) : Nat := match W.cell? ⟨X, 0, none⟩ with | some (.string r) => r.size | _ => 0
theorem leftX_is {X : Nat} {W : World} {t : TypeId} {r : ByteArray} (h : Bk W X t #[.string r]) : leftX X W = r.size := by
  unfold leftX; rw [h.cell 0]; rfl
theorem grown_drew {w w' : World} {row : Option Nat} (g : w.grownBy w' row) : w.grownBy w'.drew row := ⟨g.1, g.2, g.3, g.4, g.5⟩

set_option maxHeartbeats 1000000 in
theorem lines1_in (n l X : Nat) (hn : 1 ≤ n) (s : ByteArray) (hs : s.size ≤ 9223372036854775807) (J Jx : List ByteArray → World → Prop) (hJ : AbX X J) (_hJx : AbX X Jx)
    (hY : ∀ pre x W1, J pre W1 → (∃ q, (pre ++ [x]).map (·.data.toList) ++ q = linesL s.data.toList) → YieldAt Fence.wide (n - 1) Tryd.prog l #[.string x] W1 fun e W' =>
      (e = .returned (.bool true) ∧ J (pre ++ [x]) W' ∧ KpX X W1 W') ∨ (e = .returned (.bool false) ∧ Jx (pre ++ [x]) W'))
    (W : World) (hX : Bk W X 9 #[.string s]) (h0 : J [] W) :
    CallsIn Fence.wide n Tryd.prog 27 #[.func (.yield l) #[] #[], .pointer (some ⟨X, 0, none⟩)] W fun e W' => (∃ v, e = .returned v) ∧
      ((∃ xs, xs.map (·.data.toList) = linesL s.data.toList ∧ J xs W') ∨ (∃ pre, (∃ q, pre.map (·.data.toList) ++ q = linesL s.data.toList) ∧ Jx pre W')) := by
  refine callsIn_of_wp Tryd.func27 rfl trivial ?_ rfl
  simp only [Tryd.ntmps27, List.size_toArray, List.length_cons, List.length_nil, Nat.reduceAdd, Nat.reduceSub, Array.replicate_succ, Array.replicate_zero, List.push_toArray, List.append_toArray, List.nil_append, List.cons_append]
  gi_wp2
  gi_loopw [3, 4] (fun a b wr => ∃ (pre : List ByteArray) (r : ByteArray), Hid (pre.map (·.data.toList) ++ linesL r.data.toList = linesL s.data.toList) ∧ r.size ≤ s.size ∧ Bk wr X 9 #[.string r] ∧ J pre wr)
    (fun a b wr => leftX X wr)
  case atStart => exact ⟨[], s, by simp [Hid], Nat.le_refl _, hX, h0⟩
  case round =>
    obtain ⟨pre, r, hpre, hrs, hbk, hJs⟩ := hrel
    have hc := hbk.cell 0
    simp only [List.getElem?_toArray] at hc
    have hf := hbk.froz 0
    by_cases hr : r.size = 0
    · have h0 : r.data.toList = [] := List.eq_nil_of_length_eq_zero (by simpa using hr)
      have H0 := Lib.hid h0; clear h0
      have hr0 : decide ((0 : Int) < (r.size : Int)) = false := by simp [hr]
      gi_wp2
      go_end0
      refine ⟨⟨_, rfl⟩, .inl ⟨pre, ?_, hJs⟩⟩
      have := hpre.out
      rw [H0.out] at this
      simpa [linesL] using this
    · by_cases hm : (10 : UInt8) ∈ r.data.toList
      · obtain ⟨i, hi, hlt, hsp, hno⟩ := index_some _ hm
        have hlt' : i < r.size := by simpa using hlt
        have HI := Lib.hid hi; have HS := Lib.hid hsp; have HN := Lib.hid hno
        clear hi hsp hno hm hlt
        gi_wp2_with (refine ⟨trivial, ?_⟩; gi_at_call 28; refine (callsIn_wide.2 (ibyte_is r i HI.out _)).mono ?_; rintro e w' ⟨rfl, rfl⟩)
        gi_region
        have hJ2 : J pre (wr.setCell ⟨X, 0, none⟩ (.string (r.extract (i + 1) r.size))).drew := hJ pre wr _ (some X) hJs (grown_drew (grownBy_setCell' wr X _)) (fun r e => by cases e; rfl)
        have hbk2 : Bk (wr.setCell ⟨X, 0, none⟩ (.string (r.extract (i + 1) r.size))).drew X 9 #[.string (r.extract (i + 1) r.size)] := (hbk.set 0 _).drew
        have hline : ∀ q, pre.map (·.data.toList) ++ linesL r.data.toList = q → (pre ++ [r.extract 0 (i + 1)]).map (·.data.toList) ++ linesL (r.extract (i + 1) r.size).data.toList = q := by
          intro q hq
          rw [← hq, List.map_append, List.append_assoc, Lib.extract_to_end, List.map_singleton, Lib.extract_data]
          congr 1
          conv => rhs; rw [HS.out, linesL_line _ _ HN.out]
          simp only [List.singleton_append, List.cons.injEq, and_true, List.drop_zero, Nat.sub_zero]
          rw [List.take_add_one, List.getElem?_eq_getElem (by simpa using hlt')]
          have := congrArg (·[i]?) HS.out
          simp [hlt', Nat.min_eq_left (Nat.le_of_lt hlt')] at this
          simp [this]
        have HLN := Lib.hid hline; clear hline
        have hsz : (r.extract (i + 1) r.size).size < r.size := by simp; omega
        obtain ⟨fn, tmps, assign, body, hy, hR⟩ := hY pre (r.extract 0 (i + 1)) _ hJ2 ⟨_, HLN.out _ hpre.out⟩
        gi_wp2
        refine hR.mono ?_
        rintro e W3 (⟨rfl, hJ3, hk3⟩ | ⟨rfl, hJx3⟩)
        · gi_wp2
          have hbk3 : Bk W3 X 9 #[.string (r.extract (i + 1) r.size)] := hk3.2.trans hbk2
          go_roundw
          case rel => exact ⟨_, _, HLN.out _ hpre.out, by omega, hbk3, hJ3⟩
          case measure => rw [leftX_is hbk3, leftX_is hbk]; exact hsz
        · gi_wp2
          refine bodyPost_ret (results_none rfl _ _ _) rfl ?_
          exact ⟨⟨_, rfl⟩, .inr ⟨_, ⟨_, HLN.out _ hpre.out⟩, hJx3⟩⟩
      · have HI := Lib.hid (index_none _ hm)
        have HM := Lib.hid hm; clear hm
        have hJ2 : J pre (wr.setCell ⟨X, 0, none⟩ (.string ⟨#[]⟩)) := hJ pre wr _ (some X) hJs (grownBy_setCell' wr X _) (fun r e => by cases e; rfl)
        have hbk2 : Bk (wr.setCell ⟨X, 0, none⟩ (.string ⟨#[]⟩)) X 9 #[.string ⟨#[]⟩] := hbk.set 0 _
        have hline : ∀ q, pre.map (·.data.toList) ++ linesL r.data.toList = q → (pre ++ [r]).map (·.data.toList) ++ linesL [] = q := by
          intro q hq
          rw [← hq, List.map_append, List.append_assoc, linesL_last _ (by intro e; apply hr; have := congrArg List.length e; simpa using this) HM.out]
          simp [linesL]
        have HLN := Lib.hid hline; clear hline
        obtain ⟨fn, tmps, assign, body, hy, hR⟩ := hY pre r _ hJ2 ⟨_, HLN.out _ hpre.out⟩
        gi_wp2_with (refine ⟨trivial, ?_⟩; gi_at_call 28; refine (callsIn_wide.2 (ibyte_is r (-1) HI.out _)).mono ?_; rintro e w' ⟨rfl, rfl⟩)
        refine hR.mono ?_
        rintro e W3 (⟨rfl, hJ3, hk3⟩ | ⟨rfl, hJx3⟩)
        · gi_wp2
          have hbk3 : Bk W3 X 9 #[.string ⟨#[]⟩] := hk3.2.trans hbk2
          go_roundw
          case rel => exact ⟨pre ++ [r], ⟨#[]⟩, HLN.out _ hpre.out, Nat.zero_le _, hbk3, hJ3⟩
          case measure => rw [leftX_is hbk3, leftX_is hbk]; show 0 < _; omega
        · gi_wp2
          refine bodyPost_ret (results_none rfl _ _ _) rfl ?_
          exact ⟨⟨_, rfl⟩, .inr ⟨_, ⟨_, HLN.out _ hpre.out⟩, hJx3⟩⟩
end Go.Proofs.YteehgoaibblpfaaDoor
