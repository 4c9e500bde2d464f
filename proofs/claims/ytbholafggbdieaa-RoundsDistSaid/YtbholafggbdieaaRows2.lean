/- Rows that grow, each by itself, whatever they hold. No program in sight. -/
import Derived.Test.YtbholafggbdieaaChg
namespace Go.Proofs.Ytbholafggbdieaa
open Go.RowKit

/-- Block M holds n rows; row u holds f u. Each row lies in a block of its own, of S. -/
structure RowsE {α : Type} (enc : α → List Value) (sz : Nat) (rt et : TypeId) (w : World) (M n : Nat) (S : Nat → Prop) (f : Nat → List α) (vs : List Value) : Prop where
  blk : Bk w M rt vs.toArray
  len : vs.length = n
  row : ∀ (u : Nat) v, vs[u]? = some v → w.ownsRow 0 et sz v (f u).length ((f u).flatMap enc) ∧ ∀ g, v.ownBlock = some g → S g
  apart : ∀ (u u' : Nat) v v' g, u ≠ u' → vs[u]? = some v → vs[u']? = some v' → v.ownBlock = some g → v'.ownBlock ≠ some g
section
variable {α : Type} {enc : α → List Value} {sz : Nat} {rt et : TypeId} {w w' : World} {M n : Nat} {S T : Nat → Prop} {f : Nat → List α} {vs : List Value}
theorem RowsE.chg (h : RowsE enc sz rt et w M n S f vs) (hc : Chg T w w') (hM : ¬ T M) (hT : ∀ g, S g → ¬ T g) : RowsE enc sz rt et w' M n S f vs :=
  ⟨h.blk.chg hc hM, h.len, fun u v hv => ⟨own_chg (h.row u v hv).1 hc fun g hg => hT g ((h.row u v hv).2 g hg), (h.row u v hv).2⟩, h.apart⟩
theorem RowsE.old (h : RowsE enc sz rt et w M n S f vs) (hb : Below w.heap.size w w') : RowsE enc sz rt et w' M n S f vs := h.chg (chg_of hb (fun _ => False)) (by simp) (by simp)
theorem RowsE.congr (h : RowsE enc sz rt et w M n S f vs) {f' : Nat → List α} (hf : ∀ u, u < n → f' u = f u) : RowsE enc sz rt et w M n S f' vs :=
  ⟨h.blk, h.len, fun u v hv => by rw [hf u (by have := (List.getElem?_eq_some_iff.1 hv).1; rw [h.len] at this; exact this)]; exact h.row u v hv, h.apart⟩
theorem RowsE.begin_ {W : World} (h : Bk W M rt (Array.replicate n (Value.slice none 0 0))) : RowsE enc sz rt et W M n S (fun _ => []) (List.replicate n (.slice none 0 0)) := by
  refine ⟨by rw [List.toArray_replicate]; exact h, by simp, fun u v hv => ?_, fun u u' v v' g _ hv _ hg => ?_⟩
  all_goals
    rw [List.getElem?_replicate] at hv
    split at hv
    · cases hv
      first
        | exact ⟨World.ownsRow_nil _ _ _ _, fun g hg => by simp [Value.ownBlock] at hg⟩
        | simp [Value.ownBlock] at hg
    · cases hv
/-- One more in row u: behind the append, behind the store. -/
theorem RowsE.push (h : RowsE enc sz rt et w M n S f vs) (hrt : et ≠ rt) {u : Nat} {v v' : Value} {m : α} (hv : vs[u]? = some v) (hown : w'.ownsRow 0 et sz v' ((f u).length + 1) ((f u).flatMap enc ++ enc m))
    (hg : w.grownBy w' v.ownBlock) (hat : v'.ownBlock = v.ownBlock ∨ v'.ownBlock = some w.heap.size) (hS : S w.heap.size) :
    RowsE enc sz rt et (w'.setCell ⟨M, u, none⟩ v') M n S (fun x => if x = u then f u ++ [m] else f x) (vs.set u v') := by
  have hMv : ∀ g, v.ownBlock = some g → g ≠ M := fun g e => own_ne (h.row u v hv).1 e h.blk hrt
  have hMo : some M ≠ v.ownBlock := fun e => hMv M e.symm rfl
  have hb' : Bk w' M rt vs.toArray := h.blk.grown hg hMo
  have hlt : w.heap.size ≤ w'.heap.size := hg.size
  have hul : u < vs.length := (List.getElem?_eq_some_iff.1 hv).1
  have ne' : ∀ g, v'.ownBlock = some g → g ≠ M := by
    intro g hgv
    rcases hat with e | e
    · rw [e] at hgv; exact hMv g hgv
    · rw [e] at hgv; have := h.blk.lt; simp at hgv; omega
  refine ⟨?_, by simp [h.len], ?_, ?_⟩
  · have := hb'.set u v'
    simpa using this
  · intro x vx hx
    by_cases hxu : x = u
    · subst hxu
      rw [List.getElem?_set_self hul] at hx
      simp at hx
      subst hx
      simp only [if_true]
      refine ⟨?_, fun g hgv => ?_⟩
      · have := own_chg hown ((Chg.refl (· = M) w').setCell (p := ⟨M, x, none⟩) rfl v') (fun g hgv => ne' g hgv)
        rw [List.length_append, List.flatMap_append, List.flatMap_cons, List.flatMap_nil, List.append_nil]
        exact this
      · rcases hat with e | e
        · rw [e] at hgv; exact (h.row x v hv).2 g hgv
        · rw [e] at hgv; simp at hgv; rw [← hgv]; exact hS
    · rw [List.getElem?_set_ne (Ne.symm hxu)] at hx
      simp only [if_neg hxu]
      have hr := h.row x vx hx
      refine ⟨?_, hr.2⟩
      have h1 : w'.ownsRow 0 et sz vx (f x).length ((f x).flatMap enc) := hr.1.kept hg (by
        cases hvx : vx.ownBlock with
        | none => exact .inl rfl
        | some g => exact .inr (fun e => h.apart x u vx v g hxu hx hv hvx e.symm))
      exact own_chg h1 ((Chg.refl (· = M) w').setCell (p := ⟨M, u, none⟩) rfl v') (fun g hgv => own_ne hr.1 hgv h.blk hrt)
  · intro x y vx vy g hxy hx hy hgx
    have old : ∀ z vz, z ≠ u → vs[z]? = some vz → ∀ g, vz.ownBlock = some g → v'.ownBlock ≠ some g := by
      intro z vz hzu hz g hgz e
      rcases hat with e' | e'
      · rw [e'] at e; exact h.apart z u vz v g hzu hz hv hgz e
      · rw [e'] at e; have := own_lt (h.row z vz hz).1 hgz; simp at e; omega
    by_cases hxu : x = u
    · subst hxu
      rw [List.getElem?_set_self hul] at hx
      simp at hx
      subst hx
      rw [List.getElem?_set_ne hxy] at hy
      intro e
      exact old y vy (Ne.symm hxy) hy g e hgx
    · rw [List.getElem?_set_ne (Ne.symm hxu)] at hx
      by_cases hyu : y = u
      · subst hyu
        rw [List.getElem?_set_self hul] at hy
        simp at hy
        subst hy
        exact old x vx hxu hx g hgx
      · rw [List.getElem?_set_ne (Ne.symm hyu)] at hy
        exact h.apart x y vx vy g hxy hx hy hgx
end
/-- v reads as a list of lists. -/
def MxE {α : Type} (sz : Nat) (enc : α → List Value) (w : World) (B : Nat) (v : Value) (ls : List (List α)) : Prop :=
  ∃ vs : List Value, vs.length = ls.length ∧ Sl 1 (fun u => [u]) w B v vs ∧ ∀ (i : Nat) u l, vs[i]? = some u → ls[i]? = some l → Sl sz enc w B u l
section
variable {α : Type} {sz : Nat} {enc : α → List Value} {w w' : World} {B B' : Nat} {v : Value} {ls : List (List α)}
theorem MxE.below (h : MxE sz enc w B v ls) (hb : Below B w w') : MxE sz enc w' B v ls := by
  obtain ⟨vs, h1, h2, h3⟩ := h
  exact ⟨vs, h1, h2.below hb, fun i u l hu hl => (h3 i u l hu hl).below hb⟩
theorem MxE.more (h : MxE sz enc w B v ls) (hB : B ≤ B') : MxE sz enc w B' v ls := by
  obtain ⟨vs, h1, h2, h3⟩ := h
  exact ⟨vs, h1, h2.more hB, fun i u l hu hl => (h3 i u l hu hl).more hB⟩
theorem MxE.old (h : MxE sz enc w w.heap.size v ls) (hb : Below w.heap.size w w') : MxE sz enc w' w'.heap.size v ls := (h.below hb).more hb.size
/-- Row i, as it is read. -/
theorem MxE.at_ (h : MxE sz enc w B v ls) {i : Nat} {l : List α} (hl : ls[i]? = some l) : ∃ b o c u, v = .slice (some ⟨b, o, none⟩) ls.length c ∧ ls.length ≤ c ∧ c ≤ maxLen ∧ b < B ∧ w.cell? ⟨b, o + i, none⟩ = some u ∧ Sl sz enc w B u l := by
  obtain ⟨vs, h1, h2, h3⟩ := h
  have hi : i < vs.length := by rw [h1]; exact (List.getElem?_eq_some_iff.1 hl).1
  obtain ⟨b, o, c, e, c1, c2, hb, hc⟩ := h2.at_ hi
  have hu := hc i _ (List.getElem?_eq_getElem hi) 0 _ rfl
  exact ⟨b, o, c, _, by rw [e, h1], by omega, c2, hb, by simpa using hu, h3 i _ l (List.getElem?_eq_getElem hi) hl⟩
theorem RowsE.mx {rt et : TypeId} {M n : Nat} {S : Nat → Prop} {f : Nat → List α} {vs : List Value} (h : RowsE enc sz rt et w M n S f vs) (he : ∀ x, (enc x).length = sz) (hn : n ≤ maxLen) : MxE sz enc w w.heap.size (.slice (some ⟨M, 0, none⟩) n n) ((List.range n).map f) := by
  refine ⟨vs, by simp [h.len], ⟨some ⟨M, 0, none⟩, n, by rw [h.len], by rw [h.len]; exact Nat.le_refl _, hn, fun _ => ⟨M, 0, rfl, h.blk.lt, fun i x hx j u hu => ?_⟩⟩, fun i u l hu hl => ?_⟩
  · match j, hu with
    | 0, hu =>
      simp at hu
      subst hu
      rw [h.blk.cell, Nat.zero_add, Nat.mul_one, Nat.add_zero, List.getElem?_toArray]
      exact hx
  · have hi : i < n := by have := (List.getElem?_eq_some_iff.1 hl).1; simpa using this
    rw [List.getElem?_map, List.getElem?_range hi] at hl
    have : f i = l := by simpa using hl
    subst this
    exact Sl.of_own he ((h.row i u hu).1)
end
end Go.Proofs.Ytbholafggbdieaa
