/- A handed slice of structs of whole numbers, read as a list. No program in sight. -/
import Derived.Test.YtbholafggbdieaaData
import Derived.Deep.Slices
import Derived.Deep.Fields
import Derived.ChangeSame
namespace Go.Proofs.Ytbholafggbdieaa
open Go.ChangeShapes Go.WideShapes Go.Deep

def encZ (z : List Int) : List Value := z.map (.int .i64)

theorem cell_spot {w : World} {a : Addr} {v : Value} (h : w.cell? a = some v) : a.spot = none := by
  unfold World.cell? at h
  split at h
  · split at h
    · cases h
    · rename_i hs; simpa using hs
  · cases h

theorem add_two (b o i j : Nat) : (Addr.add ⟨b, o, none⟩ (i + j)) = ⟨b, o + i + j, none⟩ := by
  unfold Addr.add; split <;> simp <;> omega

section
variable {H : Type} {enc : TypeId × Value → H} {P : Program} {w : World} {base : Nat} {spare : Nat → Bool} {held : Bool}

theorem one_i64 {t : TypeId} {n : Nat} {cs : List Value} {y : DataW H × List MemPlace} (ht : P.underlying t = some (.int .i64)) (h : DataW.trod enc P w base spare held n t cs = some y) :
    ∃ z : Int, cs = [.int .i64 z] ∧ -9223372036854775808 ≤ z ∧ z ≤ 9223372036854775807 := by
  obtain ⟨z, rfl, _, hw⟩ := DataW.trod_int ht h
  refine ⟨z, rfl, ?_⟩
  simpa [Lit.wf, IntKind.min, IntKind.max, IntKind.signed, IntKind.bits] using hw

/-- One struct of whole numbers. -/
theorem row_ints {e : TypeId} {fs : Array Field} {n : Nat} {cs : List Value} {y : DataW H × List MemPlace} (he : P.underlying e = some (.struct fs)) (hone : oneCellFields P fs = true) (hC : P.cellsOf e = fs.size)
    (hi : ∀ (i : Nat) (f : Field), fs[i]? = some f → P.underlying f.type = some (.int .i64)) (h : DataW.trod enc P w base spare held n e cs = some y) :
    ∃ z : List Int, z.length = fs.size ∧ (∀ x ∈ z, -9223372036854775808 ≤ x ∧ x ≤ 9223372036854775807) ∧ cs = encZ z := by
  obtain ⟨ys, m, _, _, hlen, hyl, hf⟩ := DataW.trod_struct he h
  rw [hC] at hlen
  have key : ∀ i, (hi' : i < fs.size) → ∃ z : Int, cs[i]? = some (.int .i64 z) ∧ -9223372036854775808 ≤ z ∧ z ≤ 9223372036854775807 := fun i hi' => by
    obtain ⟨f, hfi⟩ : ∃ f, fs[i]? = some f := ⟨_, Array.getElem?_eq_getElem hi'⟩
    obtain ⟨ho, hk⟩ := hone_of hone i f hfi
    have h1 := hf i f hfi
    rw [ho, hk, List.drop_eq_getElem_cons (by omega : i < cs.length), List.getElem?_eq_getElem (by omega : i < ys.length)] at h1
    obtain ⟨z, hz, h2⟩ := one_i64 (hi i f hfi) h1
    simp only [List.take_succ_cons, List.take_zero, List.cons.injEq, and_true] at hz
    exact ⟨z, by rw [List.getElem?_eq_getElem (by omega), hz], h2⟩
  have : ∀ (cs : List Value), (∀ i, i < cs.length → ∃ z : Int, cs[i]? = some (.int .i64 z) ∧ -9223372036854775808 ≤ z ∧ z ≤ 9223372036854775807) →
      ∃ z : List Int, z.length = cs.length ∧ (∀ x ∈ z, -9223372036854775808 ≤ x ∧ x ≤ 9223372036854775807) ∧ cs = encZ z := by
    intro cs
    induction cs with
    | nil => intro _; exact ⟨[], rfl, by simp, rfl⟩
    | cons c cs ih =>
      intro h
      obtain ⟨z0, h0, hr⟩ := h 0 (by simp)
      obtain ⟨z, hl, hz, rfl⟩ := ih fun i hi => by simpa using h (i + 1) (by simpa using hi)
      simp at h0
      subst h0
      refine ⟨z0 :: z, by simpa using hl, ?_, by simp [encZ]⟩
      intro x hx
      rcases List.mem_cons.1 hx with rfl | hx
      · exact hr
      · exact hz x hx
  obtain ⟨z, h1, h2, h3⟩ := this cs fun i hi' => key i (by omega)
  exact ⟨z, by omega, h2, h3⟩

/-- A handed slice of such structs. -/
theorem slice_ints {t e : TypeId} {fs : Array Field} {fuel : Nat} {cs : List Value} {x : DataW H × List MemPlace} (ht : P.underlying t = some (.slice e)) (he : P.underlying e = some (.struct fs)) (hone : oneCellFields P fs = true) (hC : P.cellsOf e = fs.size) (h0 : 0 < fs.size)
    (hi : ∀ (i : Nat) (f : Field), fs[i]? = some f → P.underlying f.type = some (.int .i64)) (h : DataW.trod enc P w base spare held fuel t cs = some x) :
    ∃ (v : Value) (l : List (List Int)), cs = [v] ∧ (∀ z ∈ l, z.length = fs.size ∧ ∀ x ∈ z, -9223372036854775808 ≤ x ∧ x ≤ 9223372036854775807) ∧ Sl fs.size encZ w w.heap.size v l := by
  rcases open_slice ht h with ⟨rfl, _⟩ | ⟨a, len, cap, m, n, D, Pl, rfl, hb, hl, hm, hmm, _, hx⟩
  · exact ⟨_, [], rfl, by simp, Sl.nil _ _⟩
  · have hlm : len ≤ m := by rw [hmm]; split <;> omega
    rw [hC] at hx
    have key : ∀ i, ∃ z : List Int, i < len → z.length = fs.size ∧ (∀ x ∈ z, -9223372036854775808 ≤ x ∧ x ≤ 9223372036854775807) ∧ ∀ j u, (encZ z)[j]? = some u → a.spot = none ∧ a.block < w.heap.size ∧ w.cell? ⟨a.block, a.off + i * fs.size + j, none⟩ = some u := fun i => by
      by_cases hil : i < len
      · obtain ⟨cs', h1, h2⟩ := hx i (by omega)
        obtain ⟨z, hzl, hzr, rfl⟩ := row_ints he hone hC hi h2
        obtain ⟨_, _, hc⟩ := World.cells?_some h1
        refine ⟨z, fun _ => ⟨hzl, hzr, fun j u hu => ?_⟩⟩
        have hj : j < fs.size := by have := (List.getElem?_eq_some_iff.1 hu).1; simp [encZ] at this; omega
        have hc0 := (hc j hj).trans hu
        have hs : a.spot = none := by
          have e := (hx 0 (by omega))
          obtain ⟨cs0, g1, g2⟩ := e
          obtain ⟨_, gl, gc⟩ := World.cells?_some g1
          have := gc 0 h0
          rw [List.getElem?_eq_getElem (by omega)] at this
          simpa [Addr.add] using cell_spot this
        obtain ⟨b, o, sp⟩ := a
        simp only at hs
        subst hs
        rw [add_add, add_two] at hc0
        exact ⟨rfl, World.block_lt_of_cell? w ⟨b, o + i * fs.size + j, none⟩ hc0, hc0⟩
      · exact ⟨[], fun h => absurd h hil⟩
    obtain ⟨Z, hZ⟩ := Classical.skolem.1 key
    refine ⟨_, (List.range len).map Z, rfl, ?_, some a, cap, by simp, by simpa using hl, hm, ?_⟩
    · intro z hz
      obtain ⟨i, hi, rfl⟩ := List.mem_map.1 hz
      have := hZ i (List.mem_range.1 hi)
      exact ⟨this.1, this.2.1⟩
    · intro hp
      have hp' : 0 < len := by simpa using hp
      obtain ⟨hz1, hz2, hz3⟩ := hZ 0 hp'
      obtain ⟨hs, hbl, _⟩ := hz3 0 _ (List.getElem?_eq_getElem (by simp [encZ]; omega))
      refine ⟨a.block, a.off, by rw [← hs], hbl, fun i x hx' j u hu => ?_⟩
      have hil : i < len := by have := (List.getElem?_eq_some_iff.1 hx').1; simpa using this
      rw [List.getElem?_map, List.getElem?_range hil] at hx'
      simp at hx'
      subst hx'
      exact ((hZ i hil).2.2 j u hu).2.2
end

/-- The same list, its elements named otherwise. -/
theorem Sl.map {α β : Type} {sz : Nat} {e1 : α → List Value} {e2 : β → List Value} {w : World} {B : Nat} {v : Value} {l : List α} (f : α → β) (h : Sl sz e1 w B v l) (he : ∀ x ∈ l, e2 (f x) = e1 x) : Sl sz e2 w B v (l.map f) := by
  obtain ⟨A, c, e, h1, h2, h3⟩ := h
  refine ⟨A, c, by simpa using e, by simpa using h1, h2, fun h0 => ?_⟩
  obtain ⟨b, o, eA, hb, hc⟩ := h3 (by simpa using h0)
  refine ⟨b, o, eA, hb, fun i x hx j u hu => ?_⟩
  rw [List.getElem?_map] at hx
  cases hy : l[i]? with
  | none => rw [hy] at hx; cases hx
  | some y =>
    rw [hy] at hx
    simp at hx
    subst hx
    rw [he y (List.mem_of_getElem? hy)] at hu
    exact hc i y hy j u hu
end Go.Proofs.Ytbholafggbdieaa
