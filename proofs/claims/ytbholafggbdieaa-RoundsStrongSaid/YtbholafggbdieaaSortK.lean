/- Rows of structs, sorted by the library. No program in sight. -/
import Derived.Test.YtbholafggbdieaaChg
import Derived.Test.YtbholafggbdieaaSortShelf
namespace Go.Proofs.Ytbholafggbdieaa
open Go.RowKit Go.Sort Go.Shelf

section
variable {α : Type} [Inhabited α] {enc : α → List Value} {k : Nat} {w : World} {g : Nat}
theorem get_of {l : List α} {i : Nat} {x : α} (h : l[i]? = some x) : l.toArray[i]! = x := by
  obtain ⟨hi, rfl⟩ := List.getElem?_eq_some_iff.1 h
  simp [hi]
theorem holdsK_of_own {base : Nat} {e : TypeId} {n c : Nat} {l : List α} (hk : ∀ x, (enc x).length = k) (h0 : 0 < k) (h : w.ownsRow base e k (.slice (some ⟨g, 0, none⟩) n c) n (l.flatMap enc)) : HoldsK enc k w g 0 l.toArray := by
  rcases h.2 with ⟨e', _⟩ | ⟨g', cap, cur, e', hb, hg, h1, h2, h3, h4⟩
  · cases e'
  · injection e' with e1 _ _
    injection e1 with e1
    injection e1 with e1
    subst e1
    intro j hj
    have hj' : j < l.length * k := by simpa using hj
    have hd : j / k < l.length := Nat.div_lt_of_lt_mul (by rw [Nat.mul_comm]; exact hj')
    have hm : j % k < k := Nat.mod_lt _ h0
    obtain ⟨x, hx⟩ : ∃ x, l[j / k]? = some x := ⟨_, List.getElem?_eq_getElem hd⟩
    have hu : (enc x)[j % k]? = some ((enc x)[j % k]'(by rw [hk]; exact hm)) := List.getElem?_eq_getElem _
    have key := flat_at hk l (j / k) x hx (j % k) _ hu hm
    rw [show j / k * k + j % k = j by rw [Nat.mul_comm]; exact Nat.div_add_mod j k] at key
    rw [Nat.zero_add]
    refine ⟨?_, by simp [World.frozen?, hg]⟩
    rw [cell_of_row w g j cur e (0, 0) hg]
    rw [← h4, List.getElem?_take] at key
    have : cur[j]? = some ((enc x)[j % k]'(by rw [hk]; exact hm)) := by
      split at key
      · simpa using key
      · cases key
    rw [this, get_flatK _ _ _ _ (by simpa using hj'), get_of hx]
    have := getElem!_pos (enc x) (j % k) (by rw [hk]; exact hm)
    rw [this]
    rfl
theorem chg_sortedK {d : Array α} {m : Nat} {os : Array Obj} : Chg (· = g) w (sortWorldK enc k w g 0 m d os) := by
  refine ⟨rfl, rfl, rfl, size_sortWorldK_c enc k w g 0 m d os, fun b hb hne => ?_⟩
  unfold sortWorldK
  rw [heap_grow_old _ _ (by simpa [putRowK, putRow, mapBlock, Sort.ahead] using hb)]
  have : g ≠ b := fun e => hne e.symm
  simp [putRowK, putRow, mapBlock, Sort.ahead, Array.getElem?_modify, this]
theorem sl_sortedK {d0 d : Array α} {m n c : Nat} {os : Array Obj} (hk : ∀ x, (enc x).length = k) (h : HoldsK enc k w g 0 d0) (hg : g < w.heap.size) (hs : d.size = d0.size) (hn : d.size = n) (hc : n ≤ c) (hm : c ≤ maxLen) :
    Sl k enc (sortWorldK enc k w g 0 m d os) (sortWorldK enc k w g 0 m d os).heap.size (.slice (some ⟨g, 0, none⟩) n c) d.toList := by
  have H := holdsK_sortWorldK_c enc k w g 0 d0 d m os h hg hs
  refine ⟨some ⟨g, 0, none⟩, c, by simp [hn], by simp [hn]; exact hc, hm, fun _ => ⟨g, 0, rfl, Nat.lt_of_lt_of_le hg (size_sortWorldK_c enc k w g 0 m d os), fun i x hx j u hu => ?_⟩⟩
  have hi : i < d.size := by have := (List.getElem?_eq_some_iff.1 hx).1; simpa using this
  have hj : j < k := by have := (List.getElem?_eq_some_iff.1 hu).1; rw [hk] at this; exact this
  have := (H.cell hi hj).1
  rw [this]
  have e1 : d[i]! = x := by
    have := get_of hx
    simpa using this
  rw [e1]
  obtain ⟨hj2, rfl⟩ := List.getElem?_eq_some_iff.1 hu
  rw [getElem!_pos (enc x) j hj2]
end
end Go.Proofs.Ytbholafggbdieaa
