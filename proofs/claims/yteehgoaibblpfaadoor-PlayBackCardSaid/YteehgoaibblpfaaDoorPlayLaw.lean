/- Moves' text is read as those moves. Plain lists; no program in sight. -/
import Derived.Test.YteehgoaibblpfaaDoorDigits
import Derived.Test.YteehgoaibblpfaaDoorPlayRead
namespace Go.Proofs.YteehgoaibblpfaaDoor

theorem form_no {k : Int} {f : List UInt8 × Bool × Bool} (h : formOf k = some f) : 32 ∉ f.1 ∧ 10 ∉ f.1 ∧ (f.2.1 = false → f.2.2 = false) ∧ (kindK f.1 8 : Int) = k := by
  obtain ⟨i, hi, rfl, hf⟩ := form_some h
  have : ∀ i, i < 8 → ∀ f, formsL[i]? = some f → 32 ∉ f.1 ∧ 10 ∉ f.1 ∧ (f.2.1 = false → f.2.2 = false) ∧ kindK f.1 8 = i + 1 := by
    intro i hi f hf
    rcases (show i = 0 ∨ i = 1 ∨ i = 2 ∨ i = 3 ∨ i = 4 ∨ i = 5 ∨ i = 6 ∨ i = 7 by omega) with rfl | rfl | rfl | rfl | rfl | rfl | rfl | rfl <;> (cases hf; decide)
  obtain ⟨h1, h2, h3, h4⟩ := this i hi f hf
  exact ⟨h1, h2, h3, by rw [h4]; simp⟩

theorem mwords {m : Mv} (h : (lineR m).2 = 0) : moveG (mlineT m) = m := by
  obtain ⟨⟨w, fa, fk⟩, hf, h1, h2, e⟩ := line_good h
  obtain ⟨n1, _, n3, n4⟩ := form_no hf
  obtain ⟨k, a, p⟩ := m
  simp only at hf h1 h2 e n1 n3 n4
  rcases bad_no h1 with ⟨a0, a1, rfl⟩ | ⟨rfl, rfl⟩
  · rcases bad_no h2 with ⟨p0, p1, rfl⟩ | ⟨rfl, rfl⟩
    · have ew : wordsL (mlineT ⟨k, a, p⟩) = [w, Lib.itoa a, Lib.itoa p] := by
        unfold wordsL
        rw [e, trim_line]
        simp only [partN, if_true]
        rw [show w ++ 32 :: Lib.itoa a ++ 32 :: Lib.itoa p = w ++ 32 :: (Lib.itoa a ++ 32 :: Lib.itoa p) by simp, split_word n1, split_word (itoa_no a0 no32), split_last (itoa_no p0 no32)]
      unfold moveG
      rw [ew]
      simp [numK, n4, atoiV_itoa a0 (by omega), atoiV_itoa p0 (by omega)]
    · have ew : wordsL (mlineT ⟨k, a, 0⟩) = [w, Lib.itoa a] := by
        unfold wordsL
        rw [e, trim_line]
        simp only [partN, if_true]
        rw [show w ++ 32 :: Lib.itoa a ++ (if false = true then 32 :: Lib.itoa 0 else []) = w ++ 32 :: Lib.itoa a by simp, split_word n1, split_last (itoa_no a0 no32)]
      unfold moveG
      rw [ew]
      simp [numK, n4, atoiV_itoa a0 (by omega)]
  · rw [n3 rfl] at h2 e
    rcases bad_no h2 with ⟨_, _, hc⟩ | ⟨_, rfl⟩
    · cases hc
    have ew : wordsL (mlineT ⟨k, 0, 0⟩) = [w] := by
      unfold wordsL
      rw [e, trim_line]
      simp only [partN]
      rw [show w ++ (if false = true then 32 :: Lib.itoa 0 else []) ++ (if false = true then 32 :: Lib.itoa 0 else []) = w by simp, split_last n1]
    unfold moveG
    rw [ew]
    simp [numK, n4]

theorem mline_end {m : Mv} (h : (lineR m).2 = 0) : ∃ a, mlineT m = a ++ [10] ∧ 10 ∉ a := by
  obtain ⟨f, hf, h1, h2, e⟩ := line_good h
  obtain ⟨_, n2, _, _⟩ := form_no hf
  have part : ∀ {b : Bool} {n : Int}, badN b n = false → 10 ∉ partN b n := by
    intro b n h
    unfold partN
    rcases bad_no h with ⟨h0, _, rfl⟩ | ⟨rfl, rfl⟩
    · simp only [if_true, List.mem_cons, not_or]; exact ⟨by decide, itoa_no h0 no10⟩
    · simp
  exact ⟨_, e, by simp only [List.mem_append, not_or]; exact ⟨⟨n2, part h1⟩, part h2⟩⟩
theorem lines_play : ∀ (ms : List Mv), (∀ m ∈ ms, (lineR m).2 = 0) → linesL (playT ms) = ms.map mlineT
  | [], _ => rfl
  | m :: ms, h => by
    obtain ⟨a, e, ha⟩ := mline_end (h m (by simp))
    have ih := lines_play ms (fun x hx => h x (by simp [hx]))
    unfold playT at ih ⊢
    rw [List.flatMap_cons, List.map_cons, e, List.append_assoc, List.singleton_append, linesL_line _ _ ha, ih]
theorem okLine_of {m : Mv} (h : (lineR m).2 = 0) : okLine (mlineT m) = true := by
  unfold okLine; rw [mwords h, h]; simp
theorem play_back {ms : List Mv} (h : ∀ m ∈ ms, (lineR m).2 = 0) (hl : ms.length ≤ 100000) (s : ByteArray) (hs : s.data.toList = playT ms) : okPlay s = true ∧ movesL (linesL s.data.toList) = ms := by
  have e := lines_play ms h
  unfold okPlay
  rw [hs, e]
  refine ⟨?_, ?_⟩
  · simp only [Bool.and_eq_true, List.all_eq_true, decide_eq_true_eq, List.length_map]
    exact ⟨fun l hl => by obtain ⟨m, hm, rfl⟩ := List.mem_map.1 hl; exact okLine_of (h m hm), hl⟩
  · unfold movesL
    rw [List.map_map]
    exact (List.map_congr_left (fun m hm => mwords (h m hm))).trans (List.map_id' ms)
theorem play_fixed {s : ByteArray} (h : okPlay s = true) : (movesL (linesL s.data.toList)).length ≤ 100000 ∧ (∀ m ∈ movesL (linesL s.data.toList), (lineR m).2 = 0) ∧ playT (movesL (linesL s.data.toList)) = s.data.toList := by
  unfold okPlay at h
  simp only [Bool.and_eq_true, List.all_eq_true, decide_eq_true_eq] at h
  obtain ⟨h1, h2⟩ := h
  have hok : ∀ l ∈ linesL s.data.toList, (lineR (moveG l)).2 = 0 ∧ mlineT (moveG l) = l := fun l hl => by
    have := h1 l hl
    unfold okLine at this
    simpa using this
  refine ⟨by simpa [movesL] using h2, fun m hm => ?_, ?_⟩
  · obtain ⟨l, hl, rfl⟩ := List.mem_map.1 hm
    exact (hok l hl).1
  · have : ∀ L : List (List UInt8), (∀ l ∈ L, mlineT (moveG l) = l) → playT (movesL L) = L.flatten := by
      intro L
      induction L with
      | nil => intro _; rfl
      | cons l L ih =>
        intro h
        have := ih (fun x hx => h x (by simp [hx]))
        unfold playT movesL at this ⊢
        rw [List.map_cons, List.flatMap_cons, List.flatten_cons, this, h l (by simp)]
    rw [this _ (fun l hl => (hok l hl).2), linesL_flat]
end Go.Proofs.YteehgoaibblpfaaDoor
