/- A graph's text is read as that graph. Plain lists; no program in sight. -/
import Derived.Test.YteehgoaibblpfaaDoorDigits
import Derived.Test.YteehgoaibblpfaaDoorRead
namespace Go.Proofs.YteehgoaibblpfaaDoor

def Nice (n : Int) : Prop := 0 ≤ n ∧ n ≤ 1099511627776
theorem atoiN_itoa {n : Int} (h : Nice n) : atoiN (Lib.itoa n) = n := by
  unfold atoiN; rw [atoiOk_itoa h.1 (by have := h.2; omega), atoiV_itoa h.1 (by have := h.2; omega)]; rfl
theorem txt1 (a : Int) : txt [a] 1 = Lib.itoa a := by simp [txt]
theorem txt3 (a b c : Int) : txt [a, b, c] 3 = Lib.itoa a ++ 32 :: (Lib.itoa b ++ 32 :: Lib.itoa c) := by simp [txt]
theorem nums1 {a : Int} (h : Nice a) : numsL (lineT [a]) = [a] := by
  unfold numsL wordsL lineT
  rw [trim_line, show ([a] : List Int).length = 1 from rfl, txt1, split_last (itoa_no h.1 no32)]
  simp [atoiN_itoa h]
theorem nums3 {a b c : Int} (ha : Nice a) (hb : Nice b) (hc : Nice c) : numsL (lineT [a, b, c]) = [a, b, c] := by
  unfold numsL wordsL lineT
  rw [trim_line, show ([a, b, c] : List Int).length = 3 from rfl, txt3, split_word (itoa_no ha.1 no32), split_word (itoa_no hb.1 no32), split_last (itoa_no hc.1 no32)]
  simp [atoiN_itoa ha, atoiN_itoa hb, atoiN_itoa hc]
theorem line1 {a : Int} (h : Nice a) (r : List UInt8) : linesL (lineT [a] ++ r) = lineT [a] :: linesL r := by
  unfold lineT
  rw [show ([a] : List Int).length = 1 from rfl, txt1, List.append_assoc, List.singleton_append, linesL_line _ _ (itoa_no h.1 no10)]
theorem line3 {a b c : Int} (ha : Nice a) (hb : Nice b) (hc : Nice c) (r : List UInt8) : linesL (lineT [a, b, c] ++ r) = lineT [a, b, c] :: linesL r := by
  unfold lineT
  rw [show ([a, b, c] : List Int).length = 3 from rfl, txt3, List.append_assoc, List.singleton_append, linesL_line]
  simp only [List.mem_append, List.mem_cons, not_or]
  exact ⟨itoa_no ha.1 no10, by decide, itoa_no hb.1 no10, by decide, itoa_no hc.1 no10⟩

def niceE (e : Ed) : Prop := Nice e.f ∧ Nice e.t ∧ Nice e.g
theorem lines_eds : ∀ (es : List Ed), (∀ e ∈ es, niceE e) → linesL (es.flatMap edT) = es.map edT
  | [], _ => rfl
  | e :: es, h => by
    obtain ⟨h1, h2, h3⟩ := h e (by simp)
    rw [List.flatMap_cons, edT, line3 h1 h2 h3, lines_eds es (fun x hx => h x (by simp [hx]))]; rfl
theorem lines_sheet {n : Int} {es : List Ed} (hn : Nice n) (h : ∀ e ∈ es, niceE e) : linesL (sheetT n es) = lineT [n] :: es.map edT := by
  unfold sheetT; rw [line1 hn, lines_eds es h]
theorem graph_eds : ∀ (es : List Ed) (n : Int) (xs : List Ed), (∀ e ∈ es, niceE e) → (es.map edT).foldl stepG ⟨n, xs, false⟩ = ⟨n, xs ++ es, false⟩
  | [], _, _, _ => by simp
  | e :: es, n, xs, h => by
    obtain ⟨h1, h2, h3⟩ := h e (by simp)
    rw [List.map_cons, List.foldl_cons]
    have : stepG ⟨n, xs, false⟩ (edT e) = ⟨n, xs ++ [e], false⟩ := by
      unfold stepG edT; rw [nums3 h1 h2 h3]; rfl
    rw [this, graph_eds es n _ (fun x hx => h x (by simp [hx]))]; simp
theorem graph_sheet {n : Int} {es : List Ed} (hn : Nice n) (h : ∀ e ∈ es, niceE e) : graphL (linesL (sheetT n es)) = ⟨n, es, false⟩ := by
  rw [lines_sheet hn h, graphL, List.foldl_cons]
  have : stepG ⟨0, [], true⟩ (lineT [n]) = ⟨n, [], false⟩ := by unfold stepG; rw [nums1 hn]; rfl
  rw [this, graph_eds es n [] h]; simp

theorem nice_of {n : Int} {es : List Ed} (h : checkG n es = 0) : Nice n ∧ ∀ e ∈ es, niceE e := by
  obtain ⟨h0, h1, h2, h3⟩ := checkG_zero h
  refine ⟨⟨h0, by omega⟩, fun e he => ?_⟩
  obtain ⟨a, b, c, d⟩ := good_parts (h3 e he)
  simp [insB] at a b
  exact ⟨⟨a.1, by omega⟩, ⟨b.1, by omega⟩, ⟨c, d⟩⟩

theorem itoa_le {n : Int} {k : Nat} (h0 : 0 ≤ n) (h1 : n.toNat < 10 ^ (k + 1)) : (Lib.itoa n).length ≤ k + 1 := by rw [itoa_nat h0]; exact dec_len k _ h1
theorem ed_short {n : Int} {e : Ed} (h : goodE n e = true) (h2 : n ≤ 200) : (edT e).length ≤ 22 := by
  obtain ⟨a, b, c, d⟩ := good_parts h
  simp [insB] at a b
  have l1 := itoa_le (n := e.f) (k := 2) a.1 (by omega)
  have l2 := itoa_le (n := e.t) (k := 2) b.1 (by omega)
  have l3 := itoa_le (n := e.g) (k := 12) c (by omega)
  unfold edT lineT
  rw [show ([e.f, e.t, e.g] : List Int).length = 3 from rfl, txt3]
  simp; omega
theorem sheet_short {n : Int} {es : List Ed} (h : checkG n es = 0) : (sheetT n es).length ≤ 20000 := by
  obtain ⟨h0, h1, h2, h3⟩ := checkG_zero h
  have l0 := itoa_le (n := n) (k := 2) h0 (by omega)
  have l1 := flat_len (f := edT) (m := 22) (l := es) (fun e he => ed_short (h3 e he) h1)
  unfold sheetT lineT
  rw [show ([n] : List Int).length = 1 from rfl, txt1]
  simp only [List.length_append, List.length_cons, List.length_nil]; omega
theorem ok_sheet {n : Int} {es : List Ed} (h : checkG n es = 0) (s : ByteArray) (hs : s.data.toList = sheetT n es) (ht : s.toList = s.data.toList) : okRead s = true ∧ graphL (linesL s.data.toList) = ⟨n, es, false⟩ := by
  obtain ⟨a, b⟩ := nice_of h
  have hg : graphL (linesL s.data.toList) = ⟨n, es, false⟩ := by rw [hs, graph_sheet a b]
  refine ⟨?_, hg⟩
  unfold okRead; rw [hg, ht, hs]; simp [h]
end Go.Proofs.YteehgoaibblpfaaDoor
