/- sheet.Show: the text that it makes of every graph. -/
import Derived.Test.YteehgoaibblpfaaDoorShelf
import Derived.Test.YteehgoaibblpfaaDoorBuild
import Derived.Test.YteehgoaibblpfaaDoorWords
import Derived.Test.YteehgoaibblpfaaDoorGraph
import Derived.Lib.ItoaLen
import Derived.WalkSmall
namespace Go.Proofs.YteehgoaibblpfaaDoor
open Go.RowKit

theorem old_below {w w' : World} (h : Below w.heap.size w w') : w.grownBy w' none :=
  ⟨h.os, h.tape, h.output, h.size, fun k hk _ => h.block k hk⟩
theorem builder_old {B b : Nat} {bs : List Value} {w w' : World} (h : Lib.IsBuilderF 48 5 B b bs w) (hb : Below w.heap.size w w') : Lib.IsBuilderF 48 5 B b bs w' := by
  have key : ∀ {p : Value}, Lib.BuilderAtF 48 5 B b p bs w → Lib.BuilderAtF 48 5 B b p bs w' := by
    intro p h
    have hlt := h.lt
    obtain ⟨hB, v, hbk, hown, hne⟩ := h
    exact ⟨hB, v, (hb.block b hlt).trans hbk, hown.kept (old_below hb) (by cases hv : v.ownBlock <;> simp), hne⟩
  rcases h with h | h
  · exact .inl (key h)
  · exact .inr (key h)
theorem others_old {e : TypeId} {b : Option Nat} {w w' : World} (hb : Below w.heap.size w w') : Lib.OthersKept e b w w' :=
  fun k _ hk _ _ => (hb.block k (Array.getElem?_eq_some_iff.1 hk).1).trans hk

/-- The first k numbers, a blank between. -/
def txt (l : List Int) : Nat → List UInt8
  | 0 => []
  | k + 1 => txt l k ++ ((if 0 < k then [32] else []) ++ Lib.itoa (l[k]?.getD 0))
def lineT (l : List Int) : List UInt8 := txt l l.length ++ [10]

theorem itoa_len {n : Int} (h0 : -9223372036854775808 ≤ n) (h1 : n ≤ 9223372036854775807) : (Lib.itoa n).length ≤ 21 := Lib.itoa_length_le n h0 h1
def I64 (n : Int) : Prop := -9223372036854775808 ≤ n ∧ n ≤ 9223372036854775807
theorem getD_mem {l : List Int} {k : Nat} (h : k < l.length) : l[k]?.getD 0 ∈ l := by
  rw [List.getElem?_eq_getElem h]; exact List.getElem_mem h
theorem txt_len {l : List Int} (h : ∀ n ∈ l, I64 n) : ∀ k, k ≤ l.length → (txt l k).length ≤ 22 * k
  | 0, _ => by simp [txt]
  | k + 1, hk => by
    have ih := txt_len h k (by omega)
    have hm := h _ (getD_mem (show k < l.length by omega))
    have := itoa_len hm.1 hm.2
    simp only [txt, List.length_append]
    split <;> simp <;> omega

abbrev TB : TypeId := 48
/-- The closure that writes a line: the numbers lie in a block of their own. -/
theorem line_any (B b g : Nat) (acc : List UInt8) (l : List Int) (w : World) (hI : ∀ n ∈ l, I64 n) (hlen : l.length ≤ 3)
    (hb : Lib.IsBuilderF 48 5 B b (Lib.byteCells acc) w) (hacc : acc.length ≤ 1000000) (hBw : B ≤ w.heap.size)
    (hg : w.heap[g]? = some (.cells (l.map (Value.int .i64)).toArray 3 (0, 0))) (hpB : ∀ w', Below B w w' → Pow w') (hbg : g ≠ b) :
    Calls Tryd.prog 14 #[.slice (some ⟨g, 0, none⟩) l.length l.length, .pointer (some ⟨b, 0, none⟩)] w fun e w' => e = .returned (.tuple #[]) ∧
      Lib.IsBuilderF 48 5 B b (Lib.byteCells (acc ++ lineT l)) w' ∧ Below B w w' := by
  go_enter Tryd.func14, Tryd.ntmps14
  have hcell : ∀ w', Lib.OthersKept 5 (some b) w w' → ∀ k, k < l.length → w'.cell? ⟨g, k, none⟩ = some (.int .i64 (l[k]?.getD 0)) := by
    intro w' hk k hkl
    have := hk g _ hg (by simpa using hbg) (by intro c fz e; cases e)
    rw [Lib.cell_of_heap this]
    simp [List.getElem?_eq_getElem hkl]
  have HC := Lib.hid hcell; clear hcell
  have HG := Lib.hid hg; clear hg
  have HP := Lib.hid hpB; clear hpB
  have HI := Lib.hid hI; clear hI
  generalize hn : l.length = len at *
  have HN := Lib.hid hn; clear hn
  go_wp2
  go_loopw [3, 4, 7] (fun a c i wr => ∃ k : Nat, k ≤ len ∧ i = .int .i64 k ∧ Lib.IsBuilderF 48 5 B b (Lib.byteCells (acc ++ txt l k)) wr ∧ Below B w wr ∧ Lib.OthersKept 5 (some b) w wr) (fun a c i wr => len - (intOf i).toNat)
  case atStart => exact ⟨0, Nat.zero_le _, rfl, by simpa [txt] using hb, Below.refl _ _, Lib.OthersKept.refl _ _ _⟩
  case round =>
    obtain ⟨k, hk, rfl, hbr, hbel, hoth⟩ := hrel
    by_cases hlt : k < len
    · have hc := HC.out wr hoth k hlt
      have hn := HI.out _ (getD_mem (show k < l.length by rw [HN.out]; exact hlt))
      have htl := txt_len HI.out k (by rw [HN.out]; omega)
      have hil := itoa_len hn.1 hn.2
      obtain ⟨n0, n1⟩ := hn
      generalize hx : l[k]?.getD 0 = x at *
      have HX := Lib.hid hx; clear hx
      have hB0 := hbel.size
      have fin : ∀ (w3 : World) (d : List UInt8), d = (if 0 < k then [32] else []) → Lib.IsBuilderF 48 5 B b (Lib.byteCells (acc ++ txt l k ++ d) ++ Lib.strCells ⟨(Lib.itoa x).toArray⟩) w3 → Lib.IsBuilderF 48 5 B b (Lib.byteCells (acc ++ txt l (k + 1))) w3 := by
        intro w3 d hd h
        rw [show acc ++ txt l (k + 1) = acc ++ txt l k ++ d ++ Lib.itoa x by rw [txt, HX.out, hd]; simp only [List.append_assoc], Lib.byteCells_append]
        simpa [Lib.strCells, Lib.byteCells] using h
      have FIN := Lib.hid fin; clear fin
      by_cases h0 : 0 < k
      · go_wp2_with (first
          | (go_at_call 15; refine (writeByte_k B b _ 32 _ hbr (by simp [Lib.byteCells_length]; omega) (by omega)).mono ?_; rintro e w1 ⟨rfl, hb1, hbe1, ho1⟩; have hP1 := HP.out _ (hbel.trans hbe1); have hB1 := hbe1.size)
          | (go_at_call 17; refine (itoa_any x n0 n1 _ hP1).mono ?_; rintro e w2 ⟨rfl, hbe2⟩; have hb2 := builder_old hb1 hbe2; have hB2 := hbe2.size)
          | (go_at_call 16; refine (writeString_k B b _ _ _ hb2 (by simp [Lib.byteCells_length, ByteArray.size]; omega) (by omega)).mono ?_; rintro e w3 ⟨rfl, hb3, hbe3, ho3⟩))
        go_roundw
        case rel => exact ⟨k + 1, by omega, by go_num, FIN.out _ [32] (by rw [if_pos h0]) (by simpa [Lib.byteCells] using hb3), hbel.trans (hbe1.trans ((hbe2.mono (by omega)).trans hbe3)), hoth.trans (ho1.trans ((others_old hbe2).trans ho3))⟩
        case measure => simp [intOf]; omega
      · have hP0 := HP.out _ hbel
        go_wp2_with (first
          | (go_at_call 17; refine (itoa_any x n0 n1 _ hP0).mono ?_; rintro e w2 ⟨rfl, hbe2⟩; have hb2 := builder_old hbr hbe2; have hB2 := hbe2.size)
          | (go_at_call 16; refine (writeString_k B b _ _ _ hb2 (by simp [Lib.byteCells_length, ByteArray.size]; omega) (by omega)).mono ?_; rintro e w3 ⟨rfl, hb3, hbe3, ho3⟩))
        go_roundw
        case rel => exact ⟨k + 1, by omega, by go_num, FIN.out _ [] (by rw [if_neg h0]) (by simpa [Lib.byteCells] using hb3), hbel.trans ((hbe2.mono (by omega)).trans hbe3), hoth.trans ((others_old hbe2).trans ho3)⟩
        case measure => simp [intOf]; omega
    · obtain rfl : k = len := by omega
      have htl := txt_len HI.out k (by rw [HN.out]; exact Nat.le_refl _)
      have hB0 := hbel.size
      go_wp2_with (go_at_call 15; refine (writeByte_k B b _ 10 _ hbr (by simp [Lib.byteCells_length]; omega) (by omega)).mono ?_; rintro e w1 ⟨rfl, hb1, hbe1, ho1⟩)
      go_end0
      refine ⟨rfl, ?_, hbel.trans hbe1⟩
      rw [lineT, HN.out]
      simpa [Lib.byteCells] using hb1


def edT (e : Ed) : List UInt8 := lineT [e.f, e.t, e.g]
def sheetT (n : Int) (es : List Ed) : List UInt8 := lineT [n] ++ es.flatMap edT
theorem line_len {l : List Int} (h : ∀ n ∈ l, I64 n) : (lineT l).length ≤ 22 * l.length + 1 := by
  have := txt_len h l.length (Nat.le_refl _)
  simp [lineT]; omega
theorem flat_len {α : Type} {f : α → List UInt8} {m : Nat} : ∀ {l : List α}, (∀ x ∈ l, (f x).length ≤ m) → (l.flatMap f).length ≤ m * l.length
  | [], _ => by simp
  | x :: xs, h => by
    have h1 := h x (by simp)
    have h2 := flat_len (f := f) (m := m) (l := xs) (fun y hy => h y (by simp [hy]))
    simp only [List.flatMap_cons, List.length_append, List.length_cons, Nat.mul_add]; omega
theorem flat_take {α β : Type} {f : α → List β} {l : List α} {k : Nat} {x : α} (hx : l[k]? = some x) : (l.take (k + 1)).flatMap f = (l.take k).flatMap f ++ f x := by
  rw [List.take_add_one, hx]; simp
theorem checkG_zero {n : Int} {es : List Ed} (h : checkG n es = 0) : 0 ≤ n ∧ n ≤ 200 ∧ es.length ≤ 600 ∧ ∀ e ∈ es, goodE n e = true := by
  unfold checkG at h
  split at h
  · cases h
  · rename_i h'
    unfold allG at h
    split at h
    · rename_i h2
      exact ⟨by omega, by omega, by omega, by simpa using h2⟩
    · cases h
theorem good_nums {n : Int} {e : Ed} (h : goodE n e = true) (h2 : n ≤ 200) : ∀ x ∈ [e.f, e.t, e.g], I64 x := by
  obtain ⟨a, b, c, d⟩ := good_parts h
  simp [insB] at a b
  intro x hx
  simp at hx
  unfold I64
  rcases hx with rfl | rfl | rfl <;> omega
theorem ed_len {n : Int} {e : Ed} (h : goodE n e = true) (h2 : n ≤ 200) : (edT e).length ≤ 67 := by
  have := line_len (good_nums h h2)
  simpa [edT] using this

set_option maxHeartbeats 1000000 in
theorem show_ok (n : Int) (es : List Ed) (v : Value) (w : World) (hv : Sl 3 encE w w.heap.size v es) (hck : checkG n es = 0) (hp : Pow w) :
    Calls Tryd.prog 7 #[.agg #[.int .i64 n, v]] w fun e w' => e = .returned (.tuple #[.string ⟨(sheetT n es).toArray⟩, .int .i64 0]) ∧ Below w.heap.size w w' := by
  obtain ⟨hn0, hn2, hl6, hgood⟩ := checkG_zero hck
  obtain ⟨A, c, rfl, hvc, hcm, hA⟩ := hv
  have CK := Lib.hid (check_in n es _ w · (show Sl 3 encE w w.heap.size (.slice A es.length c) es from ⟨A, c, rfl, hvc, hcm, hA⟩))
  have HK := Lib.hid hck; clear hck
  have HA := Lib.hid hA; clear hA
  have HG := Lib.hid hgood; clear hgood
  have LN := Lib.hid (line_len (l := [n]) (by intro x hx; simp at hx; subst hx; unfold I64; omega))
  generalize hlen : es.length = len at *
  have HL := Lib.hid hlen; clear hlen
  have HP := Lib.hid hp; clear hp
  go_enter Tryd.func7, Tryd.ntmps7
  go_wp2_with (go_at_call 8; refine (CK.out _ (Below.of_alloc _ _)).mono ?_; rintro e w1 ⟨rfl, hb1⟩; rw [HK.out]; have hz1 := hb1.size; simp only [World.size_alloc] at hz1; have bx := (Bk.new w _ _).old hb1; have c0 := fun o => (bx.alloc o).cell 0; have c1 := fun o => (bx.alloc o).cell 1; simp only [List.getElem?_toArray] at c0 c1)
  have hf1 : Lib.IsBuilderF 48 5 w1.heap.size w1.heap.size (Lib.byteCells []) (w1.alloc (.cells #[.pointer none, .slice none 0 0] 48)) := Lib.IsBuilderF.of (Lib.fresh_isBuilder _ _ w1)
  have hb01 : Below w.heap.size w w1 := ((Below.of_alloc w _).trans (hb1.mono (by simp)))
  have hW : ∀ w', Below w1.heap.size w1 w' → Below w.heap.size w w' := fun w' h => hb01.trans (h.mono (by omega))
  refine (line_any w1.heap.size w1.heap.size (w1.heap.size + 1) [] [n] _ (by intro x hx; simp at hx; subst hx; unfold I64; omega) (by simp) (builder_old hf1 (Below.of_alloc _ _)) (by simp) (by simp; omega) (by simpa using heap_alloc_new (w1.alloc (.cells #[.pointer none, .slice none 0 0] 48)) (.cells #[.int .i64 n] 3))
    (fun w' h => pow_keep HP.out (hW _ (((Below.of_alloc _ _).trans ((Below.of_alloc _ _).mono (by simp))).trans h))) (by omega)).mono ?_
  rintro e w2 ⟨rfl, hf2, hb2⟩
  have hb12 : Below w1.heap.size w1 w2 := ((Below.of_alloc _ _).trans ((Below.of_alloc _ _).mono (by simp))).trans hb2
  have bx2 := bx.below hb12 bx.lt
  have c2 := bx2.cell 1
  simp only [List.getElem?_toArray] at c2
  clear c0 c1 hf1
  go_wp2_with fail
  go_loopw [8, 23] (fun q i wr => ∃ k : Nat, k ≤ len ∧ i = .int .i64 k ∧ Lib.IsBuilderF 48 5 w1.heap.size w1.heap.size (Lib.byteCells (lineT [n] ++ (es.take k).flatMap edT)) wr ∧ Below w1.heap.size w1 wr) (fun q i wr => len - (intOf i).toNat)
  case atStart => exact ⟨0, Nat.zero_le _, rfl, by simpa using hf2, hb12⟩
  case round =>
    obtain ⟨k, hk, rfl, hbr, hbel⟩ := hrel
    by_cases hlt : k < len
    · obtain ⟨b, o, rfl, hb, hc⟩ := HA.out (by omega)
      obtain ⟨x, hx⟩ : ∃ x, es[k]? = some x := ⟨_, List.getElem?_eq_getElem (by rw [HL.out]; exact hlt)⟩
      have hbw := hW _ hbel
      have hc0 := (hbw.cell (p := ⟨b, o + k * 3, none⟩) hb).trans (hc k x hx 0 _ rfl)
      have hc1 := (hbw.cell (p := ⟨b, o + k * 3 + 1, none⟩) hb).trans (hc k x hx 1 _ rfl)
      have hc2 := (hbw.cell (p := ⟨b, o + k * 3 + 2, none⟩) hb).trans (hc k x hx 2 _ rfl)
      have hgx := HG.out x (List.mem_of_getElem? hx)
      have HX := Lib.hid hx; clear hx hc
      have HGX := Lib.hid hgx; clear hgx
      have hB0 := hbel.size
      go_wp2_with fail
      have hbr2 := builder_old (builder_old hbr (Below.of_alloc _ (.cells #[.int .i64 x.f, .int .i64 x.t, .int .i64 x.g] 58))) (Below.of_alloc _ (.cells #[.int .i64 x.f, .int .i64 x.t, .int .i64 x.g] 3))
      have hbl2 : Below w1.heap.size wr ((wr.alloc (.cells #[.int .i64 x.f, .int .i64 x.t, .int .i64 x.g] 58)).alloc (.cells #[.int .i64 x.f, .int .i64 x.t, .int .i64 x.g] 3)) := ((Below.refl _ _).alloc hB0 _).alloc (by simp; omega) _
      have hln : (lineT [n] ++ (es.take k).flatMap edT).length ≤ 1000000 := by
        have h1 := LN.out
        have h2 := flat_len (f := edT) (m := 67) (l := es.take k) (fun y hy => ed_len (HG.out y (List.mem_of_mem_take hy)) hn2)
        have h3 : (es.take k).length ≤ k := List.length_take_le _ _
        simp only [List.length_append, List.length_cons, List.length_nil] at h1 ⊢
        omega
      refine (line_any w1.heap.size w1.heap.size (wr.heap.size + 1) _ [x.f, x.t, x.g] _ (good_nums HGX.out hn2) (by simp) hbr2 hln (by simp; omega) (by simpa using heap_alloc_new (wr.alloc (.cells #[.int .i64 x.f, .int .i64 x.t, .int .i64 x.g] 58)) (.cells #[.int .i64 x.f, .int .i64 x.t, .int .i64 x.g] 3))
        (fun w' h => pow_keep HP.out (hW _ (hbel.trans (hbl2.trans h)))) (by omega)).mono ?_
      rintro e w3 ⟨rfl, hf3, hb3⟩
      clear hc0 hc1 hc2 hbr2 hln hbr
      go_wp2
      go_roundw
      case rel => exact ⟨k + 1, by omega, by go_num, by rw [flat_take HX.out, ← List.append_assoc]; exact hf3, hbel.trans (hbl2.trans hb3)⟩
      case measure => simp [intOf]; omega
    · obtain rfl : k = len := by omega
      have hB0 := hbel.size
      have hbw := hW _ hbel
      go_wp2_with (go_at_call 18; refine (Tryd.Builder_String_any_k w1.heap.size w1.heap.size _ _ hbr hB0).mono ?_; rintro e w4 ⟨rfl, hf4, hb4, _⟩)
      go_ret2
      refine ⟨?_, hW _ (hbel.trans hb4)⟩
      rw [sheetT, List.take_of_length_le (by rw [HL.out]; exact Nat.le_refl _)]
      rfl

theorem show_bad (n : Int) (es : List Ed) (v : Value) (w : World) (hv : Sl 3 encE w w.heap.size v es) (hck : (checkG n es == 0) = false) :
    Calls Tryd.prog 7 #[.agg #[.int .i64 n, v]] w fun e w' => e = .returned (.tuple #[.string ⟨#[]⟩, .int .i64 (checkG n es)]) ∧ Below w.heap.size w w' := by
  have hck2 : (checkG n es != 0) = true := by simpa using hck
  obtain ⟨A, c, rfl, hvc, hcm, hA⟩ := hv
  have CK := Lib.hid (check_in n es _ w · (show Sl 3 encE w w.heap.size (.slice A es.length c) es from ⟨A, c, rfl, hvc, hcm, hA⟩))
  go_enter Tryd.func7, Tryd.ntmps7
  go_wp2_with (go_at_call 8; refine (CK.out _ (Below.of_alloc _ _)).mono ?_; rintro e w1 ⟨rfl, hb1⟩)
  go_ret2
  exact ⟨rfl, (Below.of_alloc _ _).trans (hb1.mono (by simp))⟩

/-- The same in a later world. -/
theorem show_in (n : Int) (es : List Ed) (v : Value) (w W : World) (hv : Sl 3 encE w w.heap.size v es) (hck : checkG n es = 0) (hp : Pow w) (hb : Below w.heap.size w W) :
    Calls Tryd.prog 7 #[.agg #[.int .i64 n, v]] W fun e w' => e = .returned (.tuple #[.string ⟨(sheetT n es).toArray⟩, .int .i64 0]) ∧ Below W.heap.size W w' :=
  show_ok n es v W ((hv.below hb).more hb.size) hck (pow_keep hp hb)
end Go.Proofs.YteehgoaibblpfaaDoor
