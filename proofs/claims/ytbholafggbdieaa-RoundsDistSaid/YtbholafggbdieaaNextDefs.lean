/- Words for rounds.Next: values on the way, rows of any content. -/
import Derived.Test.YtbholafggbdieaaStateCopy
import Derived.Test.YtbholafggbdieaaRoundGood
import Derived.Sort.OwnSortedInts
namespace Go.Proofs.Ytbholafggbdieaa
open Go.RowKit

/-- The values when k vertices are behind. -/
def valsK (j : Jb) (s : Stt) (k : Nat) : List Vl := (valsG j s).take k ++ s.vals.drop k
theorem valsK_set {j : Jb} {s : Stt} {k : Nat} (h : k < j.n.toNat) (hv : s.vals.length = j.n.toNat) : (valsK j s k).set k (wokeG j s k).1 = valsK j s (k + 1) := by
  have hl : ((valsG j s).take k).length = k := by rw [List.length_take, len_valsG]; omega
  have he : (valsG j s)[k]? = some (wokeG j s k).1 := by rw [valsG_at, if_pos h]
  unfold valsK
  rw [List.set_append_right _ _ (by omega), hl, Nat.sub_self, List.drop_eq_getElem_cons (by omega : k < s.vals.length), List.set_cons_zero, List.take_add_one, he]
  simp
theorem valsK_same {j : Jb} {s : Stt} {k : Nat} (h : k < j.n.toNat) (hv : s.vals.length = j.n.toNat) (hw : (wokeG j s k).1 = s.vals[k]?.getD ⟨-1, -1⟩) : valsK j s (k + 1) = valsK j s k := by
  have he : (valsG j s)[k]? = some (wokeG j s k).1 := by rw [valsG_at, if_pos h]
  unfold valsK
  rw [List.take_add_one, he, hw, List.drop_eq_getElem_cons (by omega : k < s.vals.length), List.getElem?_eq_getElem (by omega)]
  simp
theorem valsK_len {j : Jb} {s : Stt} {k : Nat} (h : k ≤ j.n.toNat) (hv : s.vals.length = j.n.toNat) : (valsK j s k).length = j.n.toNat := by
  unfold valsK; rw [List.length_append, List.length_take, List.length_drop, len_valsG]; omega
theorem flat_set : ∀ (l : List Vl) (k : Nat) (x : Vl), k < l.length → ((l.flatMap encV).set (k * 2) (.int .i64 x.a)).set (k * 2 + 1) (.int .i64 x.l) = (l.set k x).flatMap encV
  | y :: l, 0, x, _ => by simp [encV, List.flatMap_cons]
  | y :: l, k + 1, x, h => by
    have ih := flat_set l k x (by simpa using h)
    rw [List.set_cons_succ, List.flatMap_cons, List.flatMap_cons, ← ih]
    have e : (k + 1) * 2 = k * 2 + 1 + 1 := by omega
    rw [e]
    rfl
theorem msgs_succ (j : Jb) (s : Stt) (k : Nat) : msgsG j s (k + 1) = msgsG j s k ++ msgV j s k := by
  unfold msgsG; rw [List.range_succ, List.flatMap_append]; simp

theorem Sl.shape {α : Type} {sz : Nat} {enc : α → List Value} {w : World} {B : Nat} {v : Value} {l : List α} (h : Sl sz enc w B v l) : ∃ A c, v = .slice A l.length c := by
  obtain ⟨A, c, e, _⟩ := h; exact ⟨A, c, e⟩
theorem Mx.shape {w : World} {B : Nat} {v : Value} {ls : List (List Int)} (h : Mx w B v ls) : ∃ A c, v = .slice A ls.length c := by
  obtain ⟨vs, h1, h2, _⟩ := h; obtain ⟨A, c, e⟩ := h2.shape; rw [h1] at e; exact ⟨A, c, e⟩
theorem put6_size (W : World) (R : Nat) (a0 a1 a2 a3 a4 a5 : Value) : (put6 W R a0 a1 a2 a3 a4 a5).heap.size = W.heap.size := by simp [put6, World.setCell]
theorem put6_block {W : World} {R k : Nat} (h : k ≠ R) (a0 a1 a2 a3 a4 a5 : Value) : (put6 W R a0 a1 a2 a3 a4 a5).heap[k]? = W.heap[k]? := by
  unfold put6
  rw [Below.heap_setCell _ _ _ _ (by exact h), Below.heap_setCell _ _ _ _ (by exact h), Below.heap_setCell _ _ _ _ (by exact h), Below.heap_setCell _ _ _ _ (by exact h), Below.heap_setCell _ _ _ _ (by exact h), Below.heap_setCell _ _ _ _ (by exact h)]
theorem put6_chg (W : World) (R : Nat) (a0 a1 a2 a3 a4 a5 : Value) : Chg (· = R) W (put6 W R a0 a1 a2 a3 a4 a5) :=
  ((((((Chg.refl (· = R) W).setCell (p := ⟨R, 0, none⟩) rfl a0).setCell (p := ⟨R, 1, none⟩) rfl a1).setCell (p := ⟨R, 2, none⟩) rfl a2).setCell (p := ⟨R, 3, none⟩) rfl a3).setCell (p := ⟨R, 4, none⟩) rfl a4).setCell (p := ⟨R, 5, none⟩) rfl a5
/-- What lies in another block is not turned by six stores there. -/
theorem put6_at {W : World} {R : Nat} {p : Addr} (h : p.block ≠ R) (a0 a1 a2 a3 a4 a5 : Value) : (put6 W R a0 a1 a2 a3 a4 a5).cell? p = W.cell? p := by
  have far : ∀ (W : World) (q : Addr) (u : Value), p.block ≠ q.block → (W.setCell q u).cell? p = W.cell? p := fun W q u hq => World.cell?_of_block (w := W) (Below.heap_setCell W q u p.block hq)
  unfold put6
  rw [far _ _ _ (by exact h), far _ _ _ (by exact h), far _ _ _ (by exact h), far _ _ _ (by exact h), far _ _ _ (by exact h), far _ _ _ (by exact h)]

/-- Rows of any content. -/
structure RowsC (w : World) (M n : Nat) (c : Nat → List Int) (vs : List Value) : Prop where
  blk : Bk w M 38 vs.toArray
  len : vs.length = n
  row : ∀ (u : Nat) v, vs[u]? = some v → w.ownsRow 0 3 1 v (c u).length ((c u).map (.int .i64))
  apart : ∀ (u u' : Nat) v v' g, u ≠ u' → vs[u]? = some v → vs[u']? = some v' → v.ownBlock = some g → v'.ownBlock ≠ some g
theorem RowsM.c {w : World} {M n : Nat} {S : Nat → Prop} {ms : List (Int × Int)} {vs : List Value} (h : RowsM w M n S ms vs) : RowsC w M n (boxG ms) vs := ⟨h.blk, h.len, fun u v hv => (h.row u v hv).1, h.apart⟩
section
variable {w w' : World} {M n : Nat} {c c' : Nat → List Int} {vs : List Value}
theorem RowsC.old (h : RowsC w M n c vs) (hb : Below w.heap.size w w') : RowsC w' M n c vs :=
  ⟨h.blk.old hb, h.len, fun u v hv => own_old (h.row u v hv) hb, h.apart⟩
theorem RowsC.chg {T : Nat → Prop} (h : RowsC w M n c vs) (hc : Chg T w w') (hM : ¬ T M) (hT : ∀ (u : Nat) v g, vs[u]? = some v → v.ownBlock = some g → ¬ T g) : RowsC w' M n c vs :=
  ⟨h.blk.chg hc hM, h.len, fun u v hv => own_chg (h.row u v hv) hc (fun g hg => hT u v g hv hg), h.apart⟩
theorem RowsC.from {B : Nat} (h : RowsC w M n c vs) (hM : B ≤ M) (hS : ∀ (u : Nat) v g, vs[u]? = some v → v.ownBlock = some g → B ≤ g) (hk : ∀ k, B ≤ k → k < w.heap.size → w'.heap[k]? = w.heap[k]?) : RowsC w' M n c vs := by
  refine ⟨h.blk.from hM hk, h.len, fun u v hv => ?_, h.apart⟩
  have hr := h.row u v hv
  refine ⟨hr.1, ?_⟩
  rcases hr.2 with hh | ⟨g, cap, cur, rfl, hb, hg, rest⟩
  · exact .inl hh
  · exact .inr ⟨g, cap, cur, rfl, hb, (hk g (hS u _ g hv rfl) (Array.getElem?_eq_some_iff.1 hg).1).trans hg, rest⟩
/-- Another block, of another type, is written. -/
theorem RowsC.else_ (h : RowsC w M n c vs) {b : Nat} {t : TypeId} {cs : Array Value} (hb : Bk w b t cs) (h1 : 3 ≠ t) (h2 : 38 ≠ t) (hc : Chg (· = b) w w') : RowsC w' M n c vs :=
  h.chg hc (fun e => by have := Bk.ne h.blk hb h2; exact this e) (fun u v g hv hg e => own_ne (h.row u v hv) hg hb h1 e)
theorem RowsC.congr (h : RowsC w M n c vs) (hc : ∀ u, u < n → c u = c' u) : RowsC w M n c' vs :=
  ⟨h.blk, h.len, fun u v hv => by rw [← hc u (by rw [← h.len]; exact (List.getElem?_eq_some_iff.1 hv).1)]; exact h.row u v hv, h.apart⟩
/-- One row is written anew, in its own block. -/
theorem RowsC.put (h : RowsC w M n c vs) {u : Nat} {v : Value} {l : List Int} (hv : vs[u]? = some v) (hown : w'.ownsRow 0 3 1 v l.length (l.map (.int .i64))) (hc : Chg (fun k => v.ownBlock = some k) w w') :
    RowsC w' M n (fun x => if x = u then l else c x) vs := by
  refine ⟨h.blk.chg hc (fun e => own_ne (h.row u v hv) e h.blk (by decide) rfl), h.len, fun x vx hx => ?_, h.apart⟩
  by_cases hxu : x = u
  · subst hxu
    rw [hv] at hx
    cases hx
    rw [if_pos rfl]
    exact hown
  · rw [if_neg hxu]
    exact own_chg (h.row x vx hx) hc (fun g hg e => h.apart x u vx v g hxu hx hv hg e)
theorem RowsC.mx (h : RowsC w M n c vs) {k : Nat} (hk : n ≤ k) (hk2 : k ≤ maxLen) : Mx w w.heap.size (.slice (some ⟨M, 0, none⟩) n k) ((List.range n).map c) := by
  refine ⟨vs, by simp [h.len], ⟨some ⟨M, 0, none⟩, k, by rw [h.len], by rw [h.len]; exact hk, hk2, fun _ => ⟨M, 0, rfl, h.blk.lt, fun i x hx j u hu => ?_⟩⟩, fun i u l hu hl => ?_⟩
  · match j, hu with
    | 0, hu =>
      simp at hu
      subst hu
      rw [h.blk.cell, Nat.zero_add, Nat.mul_one, Nat.add_zero, List.getElem?_toArray]
      exact hx
  · have hi : i < n := by rw [← h.len]; exact (List.getElem?_eq_some_iff.1 hu).1
    rw [List.getElem?_map, List.getElem?_range hi] at hl
    simp at hl
    subst hl
    have := h.row i u hu
    refine Sl.of_own (base := 0) (e := 3) (fun _ => rfl) ?_
    have e : (c i).flatMap encN = (c i).map (.int .i64) := by
      generalize c i = L
      induction L with
      | nil => rfl
      | cons x L ih => rw [List.flatMap_cons, ih]; rfl
    rw [e]
    exact this
end
def SortR (v : Value) (l : List Int) (w : World) (e : Ending) (w' : World) : Prop := e = .returned (.tuple #[]) ∧ w'.ownsRow 0 3 1 v l.length ((sortG l).map (.int .i64)) ∧ Chg (fun k => v.ownBlock = some k) w w'
theorem sort_own (v : Value) (l : List Int) (w : World) (hl : l.length ≤ 100000) (h : w.ownsRow 0 3 1 v l.length (l.map (.int .i64))) : Calls Try.prog 28 #[v] w (SortR v l w) := by
  rcases h.2 with ⟨rfl, h0⟩ | ⟨g, cap, cur, rfl, hb, hg, h1, h2, h3, h4⟩
  · obtain rfl := List.eq_nil_of_length_eq_zero h0
    refine (Try.slices_Sort_int_none none 0 w).mono fun e w' ⟨he, hw⟩ => ⟨he, by rw [hw, show sortG [] = [] by simp [sortG]]; exact h, by rw [hw]; exact Chg.refl _ _⟩
  · rw [Nat.mul_one] at h4
    refine (Try.slices_Sort_int g 0 cap l w (holds_of_blockI hg (by simpa using h4)) (Array.getElem?_eq_some_iff.1 hg).1 (by omega)).mono ?_
    rintro e w' ⟨rfl, nn, os, rfl⟩
    refine ⟨rfl, ownsRow_sortedI (by simp) hb hg h1 h2 h3, (Chg.refl _ w).grown (grownBy_sortedI _) (fun k hk _ => by simp at hk; rw [hk]; rfl)⟩
/-- Rows of which the first q are sorted. -/
def sortK (ms : List (Int × Int)) (q u : Nat) : List Int := if u < q then sortG (boxG ms u) else boxG ms u
theorem sortK_put (ms : List (Int × Int)) (q : Nat) : (fun x => if x = q then sortG (boxG ms q) else sortK ms q x) = sortK ms (q + 1) := by
  funext x
  unfold sortK
  by_cases h : x = q
  · subst h; rw [if_pos rfl, if_pos (by omega)]
  · rw [if_neg h]
    by_cases h2 : x < q
    · rw [if_pos h2, if_pos (by omega)]
    · rw [if_neg h2, if_neg (by omega)]
theorem anyG_take {mail : List (List Int)} {q : Nat} {l : List Int} (h : mail[q]? = some l) : anyG (mail.take (q + 1)) = (anyG (mail.take q) || !l.isEmpty) := by
  unfold anyG; rw [List.take_add_one, h, List.any_append]; simp
theorem mailG_eq (j : Jb) (s : Stt) : mailG j s = (List.range j.n.toNat).map (sortK (msgsG j s j.n.toNat) j.n.toNat) := by
  unfold mailG rawG
  rw [List.map_map]
  refine List.map_congr_left fun u hu => ?_
  unfold sortK
  rw [if_pos (List.mem_range.1 hu)]
  rfl
theorem valsK_all (j : Jb) (s : Stt) (h : s.vals.length = j.n.toNat) : valsK j s j.n.toNat = valsG j s := by
  unfold valsK; rw [List.take_of_length_le (by rw [len_valsG]; exact Nat.le_refl _), List.drop_eq_nil_of_le (by omega), List.append_nil]
end Go.Proofs.Ytbholafggbdieaa
