/- Rows of mail that grow, each by itself. No program in sight but its types. -/
import Derived.Test.YtbholafggbdieaaChg
namespace Go.Proofs.Ytbholafggbdieaa
open Go.RowKit

theorem infoMail : (Try.prog.info? 3).map (fun i => (i.zero, i.size, i.bytes)) = some (some (.int .i64 0), 1, 8) := by kernel_rfl
/-- Block M holds n rows; row u holds what of ms is for u. Each row lies in a block of its own, of S. -/
structure RowsM (w : World) (M n : Nat) (S : Nat → Prop) (ms : List (Int × Int)) (vs : List Value) : Prop where
  blk : Bk w M 38 vs.toArray
  len : vs.length = n
  row : ∀ (u : Nat) v, vs[u]? = some v → w.ownsRow 0 3 1 v (boxG ms u).length ((boxG ms u).map (.int .i64)) ∧ ∀ g, v.ownBlock = some g → S g
  apart : ∀ (u u' : Nat) v v' g, u ≠ u' → vs[u]? = some v → vs[u']? = some v' → v.ownBlock = some g → v'.ownBlock ≠ some g
section
variable {w w' : World} {M n : Nat} {S T : Nat → Prop} {ms : List (Int × Int)} {vs : List Value}
theorem RowsM.chg (h : RowsM w M n S ms vs) (hc : Chg T w w') (hM : ¬ T M) (hT : ∀ g, S g → ¬ T g) : RowsM w' M n S ms vs :=
  ⟨h.blk.chg hc hM, h.len, fun u v hv => ⟨own_chg (h.row u v hv).1 hc fun g hg => hT g ((h.row u v hv).2 g hg), (h.row u v hv).2⟩, h.apart⟩
theorem RowsM.old (h : RowsM w M n S ms vs) (hb : Below w.heap.size w w') : RowsM w' M n S ms vs := h.chg (chg_of hb (fun _ => False)) (by simp) (by simp)
theorem boxG_snoc (ms : List (Int × Int)) (u u' : Nat) (m : Int) : boxG (ms ++ [((u : Int), m)]) u' = if u = u' then boxG ms u' ++ [m] else boxG ms u' := by
  unfold boxG
  rw [List.filter_append, List.map_append]
  by_cases h : u = u'
  · subst h; simp
  · rw [if_neg h]
    have : decide ((u : Int) = (u' : Int)) = false := by simp; omega
    simp [this]
/-- One number more in row u: behind the append, behind the store. -/
theorem RowsM.push (h : RowsM w M n S ms vs) {u : Nat} {v v' : Value} {m : Int} (hv : vs[u]? = some v) (hown : w'.ownsRow 0 3 1 v' ((boxG ms u).length + 1) ((boxG ms u).map (.int .i64) ++ [.int .i64 m]))
    (hg : w.grownBy w' v.ownBlock) (hat : v'.ownBlock = v.ownBlock ∨ v'.ownBlock = some w.heap.size) (hS : S w.heap.size) :
    RowsM (w'.setCell ⟨M, u, none⟩ v') M n S (ms ++ [((u : Int), m)]) (vs.set u v') := by
  have hMv : ∀ g, v.ownBlock = some g → g ≠ M := fun g e => own_ne (h.row u v hv).1 e h.blk (by decide)
  have hMo : some M ≠ v.ownBlock := fun e => hMv M e.symm rfl
  have hb' : Bk w' M 38 vs.toArray := h.blk.grown hg hMo
  have hlt : w.heap.size ≤ w'.heap.size := hg.size
  have hul : u < vs.length := (List.getElem?_eq_some_iff.1 hv).1
  have ne' : ∀ g, v'.ownBlock = some g → g ≠ M := by
    intro g hgv
    rcases hat with e | e
    · rw [e] at hgv; exact hMv g hgv
    · rw [e] at hgv; have := h.blk.lt; simp at hgv; omega
  refine ⟨?_, by simp [h.len], ?_, ?_⟩
  · have := hb'.set u v'
    simpa using this
  · intro x vx hx
    by_cases hxu : x = u
    · subst hxu
      rw [List.getElem?_set_self hul] at hx
      simp at hx
      subst hx
      rw [boxG_snoc, if_pos rfl]
      refine ⟨?_, fun g hgv => ?_⟩
      · have := own_chg hown ((Chg.refl (· = M) w').setCell (p := ⟨M, x, none⟩) rfl v') (fun g hgv => ne' g hgv)
        simpa using this
      · rcases hat with e | e
        · rw [e] at hgv; exact (h.row x v hv).2 g hgv
        · rw [e] at hgv; simp at hgv; rw [← hgv]; exact hS
    · rw [List.getElem?_set_ne (Ne.symm hxu)] at hx
      rw [boxG_snoc, if_neg (Ne.symm hxu)]
      have hr := h.row x vx hx
      refine ⟨?_, hr.2⟩
      have h1 : w'.ownsRow 0 3 1 vx (boxG ms x).length ((boxG ms x).map (.int .i64)) := hr.1.kept hg (by
        cases hvx : vx.ownBlock with
        | none => exact .inl rfl
        | some g => exact .inr (fun e => h.apart x u vx v g hxu hx hv hvx e.symm))
      exact own_chg h1 ((Chg.refl (· = M) w').setCell (p := ⟨M, u, none⟩) rfl v') (fun g hgv => own_ne hr.1 hgv h.blk (by decide))
  · intro x y vx vy g hxy hx hy hgx
    have old : ∀ z vz, z ≠ u → vs[z]? = some vz → ∀ g, vz.ownBlock = some g → v'.ownBlock ≠ some g := by
      intro z vz hzu hz g hgz e
      rcases hat with e' | e'
      · rw [e'] at e; exact h.apart z u vz v g hzu hz hv hgz e
      · rw [e'] at e; have := own_lt (h.row z vz hz).1 hgz; simp at e; omega
    by_cases hxu : x = u
    · subst hxu
      rw [List.getElem?_set_self hul] at hx
      simp at hx
      subst hx
      rw [List.getElem?_set_ne hxy] at hy
      intro e
      exact old y vy (Ne.symm hxy) hy g e hgx
    · rw [List.getElem?_set_ne (Ne.symm hxu)] at hx
      by_cases hyu : y = u
      · subst hyu
        rw [List.getElem?_set_self hul] at hy
        simp at hy
        subst hy
        exact old x vx hxu hx g hgx
      · rw [List.getElem?_set_ne (Ne.symm hyu)] at hy
        exact h.apart x y vx vy g hxy hx hy hgx
end
end Go.Proofs.Ytbholafggbdieaa
