/- The library's words at this translation, over what its variables hold: strconv.Atoi, strings.Split at a blank, strings.TrimSuffix. -/
import Derived.Test.YteehgoaibblpfaaDoorShelf
import Derived.Test.YteehgoaibblpfaaDoorData
import Derived.Lib.SplitLaws
import Derived.Lib.IndexLaws
import Derived.WalkSmall
namespace Go.Proofs.YteehgoaibblpfaaDoor
open Go.RowKit

/-- The table of powers of ten reads as the library's text lays it. -/
abbrev Pow (w : World) : Prop := Lib.TabIs Tryd.prog w "internal/strconv.uint64pow10" .u64 Lib.pow10Tab
theorem gPow : Tryd.prog.globalNamed "internal/strconv.uint64pow10" = some 1 := by kernel_rfl
theorem pow_keep {w w' : World} (h : Pow w) (hb : Below w.heap.size w w') : Pow w' := by
  have hc := h.cell gPow 0 (by decide)
  exact var?_below hb gPow (World.block_lt_of_cell? w _ hc) h

/-- What the library's variables hold, as far as it is asked. -/
structure Env (w : World) : Prop where
  pow : Pow w
  mx : ∃ m, w.cell? ⟨2, 0, none⟩ = some (.int .i64 m)
  syn : ∃ t p, w.cell? ⟨3, 0, none⟩ = some (.iface t p)
  rng : ∃ t p, w.cell? ⟨4, 0, none⟩ = some (.iface t p)
theorem cell_keep {w w' : World} {a : Addr} {v : Value} (h : w.cell? a = some v) (hb : Below w.heap.size w w') : w'.cell? a = some v :=
  (hb.cell (World.block_lt_of_cell? w _ h)).trans h
theorem Env.keep {w w' : World} (h : Env w) (hb : Below w.heap.size w w') : Env w' := by
  obtain ⟨h1, ⟨m, h2⟩, ⟨t, p, h3⟩, ⟨u, q, h4⟩⟩ := h
  exact ⟨pow_keep h1 hb, ⟨m, cell_keep h2 hb⟩, ⟨t, p, cell_keep h3 hb⟩, ⟨u, q, cell_keep h4 hb⟩⟩

theorem itoa_any (n : Int) (h0 : -9223372036854775808 ≤ n) (h1 : n ≤ 9223372036854775807) (w : World) (hp : Pow w) :
    Calls Tryd.prog 17 #[.int .i64 n] w fun e w' => e = .returned (.string ⟨(Lib.itoa n).toArray⟩) ∧ Below w.heap.size w w' := by
  refine (Tryd.strconv_Itoa n h0 h1 w hp).mono ?_
  rintro e w' ⟨rfl, k, os, rfl⟩
  refine ⟨rfl, rfl, rfl, rfl, ?_, fun i hi => ?_⟩
  · simp [«Sort».grow]
  · simp [«Sort».grow, Array.getElem?_append_left hi]

/-- What Atoi tells: the number, and whether it is one. -/
def atoiV (l : List UInt8) : Int := match Lib.atoiAll l with | .ok v => v | .range => Lib.atoiSat l | _ => 0
def atoiOk (l : List UInt8) : Bool := match Lib.atoiAll l with | .ok _ => true | _ => false
/-- The error beside it. -/
def ErrOf (l : List UInt8) (v : Value) : Prop := if atoiOk l then v = .nilIface else ∃ N, v = .iface 95 (.pointer (some ⟨N, 0, none⟩))

theorem atoi_any (s : ByteArray) (hs : s.size ≤ 281474976710656) (w : World) (hE : Env w) :
    Calls Tryd.prog 31 #[.string s] w fun e w' => (∃ v, e = .returned (.tuple #[.int .i64 (atoiV s.data.toList), v]) ∧ ErrOf s.data.toList v) ∧ Below w.heap.size w w' := by
  unfold ErrOf
  rcases h : Lib.atoiAll s.data.toList with v | _ | _
  · refine (Tryd.strconv_Atoi_ok s (by omega) v h w).mono ?_
    rintro e w' ⟨rfl, rfl | ⟨t, rfl⟩⟩
    · exact ⟨⟨_, by rw [show atoiV s.data.toList = v by simp [atoiV, h]], by simp [atoiOk, h]⟩, Below.refl _ _⟩
    · exact ⟨⟨_, by rw [show atoiV s.data.toList = v by simp [atoiV, h]], by simp [atoiOk, h]⟩, Lib.bytesWorld_below w _ _⟩
  · obtain ⟨t, p, hv⟩ := hE.syn
    refine (Any.strconv_Atoi_syntax Tryd.laysC172 s hs h _ w hv (.inr ⟨t, p, rfl⟩)).mono ?_
    rintro e w' ⟨N, rfl, _, _, hb⟩
    exact ⟨⟨_, by rw [show atoiV s.data.toList = 0 by simp [atoiV, h]], by rw [if_neg (by simp [atoiOk, h])]; exact ⟨_, rfl⟩⟩, hb⟩
  · obtain ⟨t, p, hv⟩ := hE.rng
    refine (Tryd.strconv_Atoi_range s hs h _ w hv (.inr ⟨t, p, rfl⟩)).mono ?_
    rintro e w' ⟨N, rfl, _, _, hb⟩
    exact ⟨⟨_, by rw [show atoiV s.data.toList = Lib.atoiSat s.data.toList by simp [atoiV, h]], by simp [atoiOk, h]⟩, hb⟩

/-- The words of a line: its last line feed struck, cut at each blank. -/
def wordsL (l : List UInt8) : List (List UInt8) := Lib.split (Lib.trimSuffix l [10]) [32]
def wordsB (l : List UInt8) : List ByteArray := Lib.splitB ⟨#[32]⟩ 0 (Lib.countB ⟨(Lib.trimSuffix l [10]).toArray⟩ ⟨#[32]⟩) ⟨(Lib.trimSuffix l [10]).toArray⟩
theorem wordsB_map (l : List UInt8) : (wordsB l).map (·.data.toList) = wordsL l := by
  unfold wordsB wordsL Lib.split
  exact Lib.splitB_data _ _ _ _
theorem wordsB_length (l : List UInt8) : (wordsB l).length = Lib.countB ⟨(Lib.trimSuffix l [10]).toArray⟩ ⟨#[32]⟩ + 1 :=
  Lib.splitB_all ⟨#[32]⟩ (by decide) 0 _ _ rfl
theorem wordsL_length (l : List UInt8) : (wordsL l).length = (wordsB l).length := by rw [← wordsB_map]; simp

theorem trim_le (l : List UInt8) : (Lib.trimSuffix l [10]).length ≤ l.length := by
  unfold Lib.trimSuffix; split <;> simp
theorem wordsB_le (l : List UInt8) : (wordsB l).length ≤ l.length + 1 := by
  rw [wordsB_length]
  have h1 := Lib.countB_le ⟨#[32]⟩ (by decide) _ ⟨(Lib.trimSuffix l [10]).toArray⟩ (Nat.le_refl _)
  have h2 := trim_le l
  have h3 : (⟨(Lib.trimSuffix l [10]).toArray⟩ : ByteArray).size = (Lib.trimSuffix l [10]).length := rfl
  omega

theorem trim_is (s : ByteArray) (hs : s.size ≤ 9223372036854775807) (w : World) :
    Calls Tryd.prog 30 #[.string s, .string ⟨#[10]⟩] w fun e w' => e = .returned (.string ⟨(Lib.trimSuffix s.data.toList [10]).toArray⟩) ∧ w = w' :=
  (Tryd.strings_TrimSuffix s ⟨#[10]⟩ w hs).mono fun _ _ ⟨a, b⟩ => ⟨a, b.symm⟩
theorem split_is (s : ByteArray) (hs : s.size ≤ 4294967280) (w : World) (hE : Env w) :
    Calls Tryd.prog 29 #[.string ⟨(Lib.trimSuffix s.data.toList [10]).toArray⟩, .string ⟨#[32]⟩] w fun e w' =>
      e = .returned (.slice (some ⟨w.heap.size, 0, none⟩) (wordsB s.data.toList).length (wordsB s.data.toList).length) ∧ w' = w.alloc (.cells ((wordsB s.data.toList).map Value.string).toArray 9) := by
  obtain ⟨m, hm⟩ := hE.mx
  rw [wordsB_length]
  refine Tryd.strings_Split ⟨(Lib.trimSuffix s.data.toList [10]).toArray⟩ ⟨#[32]⟩ m w ?_ hm (by decide)
  have h2 := trim_le s.data.toList
  have h3 : (⟨(Lib.trimSuffix s.data.toList [10]).toArray⟩ : ByteArray).size = (Lib.trimSuffix s.data.toList [10]).length := rfl
  simp only [Array.length_toList] at h2
  have h4 : s.data.size = s.size := rfl
  omega

theorem atoi_yes (s : ByteArray) (hs : s.size ≤ 281474976710656) (h : atoiOk s.data.toList = true) (w : World) (hE : Env w) :
    Calls Tryd.prog 31 #[.string s] w fun e w' => e = .returned (.tuple #[.int .i64 (atoiV s.data.toList), .nilIface]) ∧ Below w.heap.size w w' :=
  (atoi_any s hs w hE).mono fun _ _ ⟨⟨_, a, b⟩, c⟩ => by
    unfold ErrOf at b; rw [if_pos h] at b; subst b; exact ⟨a, c⟩
theorem atoi_no (s : ByteArray) (hs : s.size ≤ 281474976710656) (h : atoiOk s.data.toList = false) (w : World) (hE : Env w) :
    Calls Tryd.prog 31 #[.string s] w fun e w' => (∃ N, e = .returned (.tuple #[.int .i64 (atoiV s.data.toList), .iface 95 (.pointer (some ⟨N, 0, none⟩))])) ∧ Below w.heap.size w w' :=
  (atoi_any s hs w hE).mono fun _ _ ⟨⟨_, a, b⟩, c⟩ => by
    unfold ErrOf at b; rw [if_neg (by simp [h])] at b; obtain ⟨N, rfl⟩ := b; exact ⟨⟨N, a⟩, c⟩

theorem piece_le (sep : ByteArray) : ∀ (k : Nat) (s x : ByteArray), x ∈ Lib.splitB sep 0 k s → x.size ≤ s.size
  | 0, s, x, h => by simp [Lib.splitB] at h; subst h; exact Nat.le_refl _
  | k + 1, s, x, h => by
    unfold Lib.splitB at h
    split at h
    · simp at h; subst h; exact Nat.le_refl _
    · rcases List.mem_cons.1 h with rfl | h
      · simp; omega
      · have := piece_le sep k _ x h
        simp at this; omega
theorem word_le {l : List UInt8} {x : ByteArray} (h : x ∈ wordsB l) : x.size ≤ l.length := by
  have h1 := piece_le _ _ _ _ h
  have h2 := trim_le l
  have h3 : (⟨(Lib.trimSuffix l [10]).toArray⟩ : ByteArray).size = (Lib.trimSuffix l [10]).length := rfl
  omega

/-! ### Cutting what was put together -/
theorem noOcc_of {w r : List UInt8} (h : 32 ∉ w) : Lib.NoOcc (w ++ 32 :: r) [32] w.length := by
  intro j hj
  simp only [Lib.occAt]
  have : (w ++ 32 :: r).drop j = w[j] :: (w ++ 32 :: r).drop (j + 1) := by
    rw [List.drop_eq_getElem_cons (by simp; omega), List.getElem_append_left hj]
  rw [this]
  have hne : w[j] ≠ 32 := fun e => h (e ▸ List.getElem_mem hj)
  simp [List.isPrefixOf, Ne.symm hne]
theorem index_word {w r : List UInt8} (h : 32 ∉ w) : Lib.index (w ++ 32 :: r) [32] = w.length :=
  Lib.index_hit (noOcc_of h) (by simp) (by simp [Lib.occAt, List.isPrefixOf])
theorem split_word {w r : List UInt8} (h : 32 ∉ w) : Lib.split (w ++ 32 :: r) [32] = w :: Lib.split r [32] := by
  unfold Lib.split
  rw [Lib.count_hit (by simp) (index_word h), Nat.add_comm 1]
  rw [Lib.splitK, if_neg (by rw [index_word h]; simp), index_word h]
  simp
theorem split_last {w : List UInt8} (h : 32 ∉ w) : Lib.split w [32] = [w] := by
  unfold Lib.split
  rw [Lib.count_one, List.count_eq_zero.2 h]; rfl
theorem trim_line (l : List UInt8) : Lib.trimSuffix (l ++ [10]) [10] = l := by
  unfold Lib.trimSuffix
  rw [if_pos]
  · simp
  · simp [Lib.hasSuffix]

end Go.Proofs.YteehgoaibblpfaaDoor
