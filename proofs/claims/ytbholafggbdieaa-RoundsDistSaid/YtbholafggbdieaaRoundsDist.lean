/- Rounds tell the distances that paths tell. For every input. -/
import Derived.Test.YtbholafggbdieaaDistEnd
import Derived.Test.YtbholafggbdieaaRowOf
namespace Go.Proofs.Ytbholafggbdieaa.roundsDist
open Go
open Go.ChangeShapes Go.WideShapes Go.ChangeAt Go.RowKit Go.Proofs.Ytbholafggbdieaa

set_option maxRecDepth 100000 in
theorem lifted (os : Os) (started : os.Started) (H : Type) (enc : TypeId × Value → H) (F : Stop.Interp) :
    ReturnsInHanded {} Try.checked os 8 .any ((OpenSpec.ofChange Rows.roundsDistSpec).preRow enc Try.prog Try.f8 Rows.roundsDistRow.domain false Rows.roundsDistRow.laid) (((OpenSpec.ofChange Rows.roundsDistSpec).at F).post enc Try.prog Try.f8 false true false false) := by
  refine returnsInHanded_of_row (C := Try.checked) (s := OpenSpec.ofChange Rows.roundsDistSpec) own started (by kernel_rfl) Try.func8
    (witness_at (enc := enc) (C := Try.checked) (World.laidAll Try.prog os Rows.roundsDistRow.laid) #[.int .i64 0, .slice none 0 0, .int .i64 0] (World.laidAll_os _ _ _) (World.shaped_of_ZipB (by kernel_rfl) (by kernel_rfl)) (by kernel_rfl)
      (OpenSpec.preRow_of_cond 8 (x := ([.lit (.int .i64 0), .nil, .lit (.int .i64 0)], [], [])) (by kernel_rfl) (by kernel_rfl) (fun k hk => by cases hk) (by kernel_rfl) (by rw [MakeChecks.laidMetH_plain _ _ _ (by kernel_rfl)]; exact laidMet_laidAll _ (by kernel_rfl) (by kernel_rfl)))) ?_
  intro W base args ds gs before hval hW _ _ _ hL hsh _
  have hW' := hW
  obtain ⟨p, q, hA0, hV, rfl, _, _⟩ := hW
  have hA : DataW.TrodAll enc Try.prog W 0 (fun _ => true) true Try.f8.params.toList args.toList ds p := hA0
  rw [Try.params8] at hA hval
  obtain ⟨v0, vs0, d0, ds0, p0, q0, hargs, rfl, rfl, h0, r0⟩ := trodAll_cons hA
  obtain ⟨v1, vs1, d1, ds1, p1, q1, rfl, rfl, rfl, h1, r1⟩ := trodAll_cons r0
  obtain ⟨v2, vs2, d2, ds2, p2, q2, rfl, rfl, rfl, h2, r2⟩ := trodAll_cons r1
  obtain ⟨rfl, rfl, rfl⟩ := trodAll_nil r2
  obtain ⟨args⟩ := args
  simp only at hargs
  subst hargs
  obtain ⟨rfl, rfl⟩ := trodVars_none hV
  simp only [List.append_nil] at hW'
  have hlt : ∀ x ∈ p1, x.block < W.heap.size := fun x hx => hW'.lt x (by simp [hx])
  have hwk := h1
  obtain ⟨z0, rfl, rfl, rfl, hz0⟩ := open_int Try.underlying3 (hval 0 3 v0 rfl rfl) h0
  have hi0 : I64 z0 := by simpa [Lit.wf, IntKind.min, IntKind.max, IntKind.signed, IntKind.bits, I64] using hz0
  obtain ⟨z2, rfl, rfl, rfl, hz2⟩ := open_int Try.underlying3 (hval 2 3 v2 rfl rfl) h2
  have hi2 : I64 z2 := by simpa [Lit.wf, IntKind.min, IntKind.max, IntKind.signed, IntKind.bits, I64] using hz2
  obtain ⟨n, hwk⟩ := hwk
  obtain ⟨v, l, hv, hl, hsl⟩ := slice_ints Try.underlying22 Try.underlying78 (by kernel_rfl) (by kernel_rfl) (by decide) (fun i f hf => by
    match i, hf with
    | 0, hf => cases hf; exact Try.underlying3
    | 1, hf => cases hf; exact Try.underlying3
    | 2, hf => cases hf; exact Try.underlying3
    | n + 3, hf => simp at hf) hwk
  obtain ⟨sa, sl, sc, rfl⟩ := okWide_slice Try.underlying22 (hval 1 22 v1 rfl rfl)
  obtain rfl : Value.slice sa sl sc = v := by simpa [Value.cells] using hv
  have hse := hsl.map (e2 := encW) (fun z => (⟨z.getD 0 0, z.getD 1 0, z.getD 2 0⟩ : Wy)) fun z hz => by
    obtain ⟨hz3, _⟩ := hl z hz
    match z, hz3 with
    | [a, b, c], _ => rfl
  have hws : ∀ x ∈ l.map (fun z => (⟨z.getD 0 0, z.getD 1 0, z.getD 2 0⟩ : Wy)), I64 x.f ∧ I64 x.t ∧ I64 x.g := fun x hx => by
    obtain ⟨z, hz, rfl⟩ := List.mem_map.1 hx
    obtain ⟨hz3, hb⟩ := hl z hz
    match z, hz3 with
    | [a, b, c], _ => exact ⟨hb a (by simp), hb b (by simp), hb c (by simp)⟩
  refine (rdist_any z0 z2 _ _ W hi0 hi2 hse hws).mono fun e W' ⟨he, hb⟩ => ?_
  subst he
  exact ⟨_, rfl, _, _, _, [], _, [], hW', trodAll_mk1 (shut_bool Try.underlying4 _), (trodAll_cons_mk (shut_int Try.underlying3 hz0) (trodAll_cons_mk (Below.trod laidOut (by kernel_rfl) (of_decide_eq_true (by kernel_rfl)) h1 hb hlt) (trodAll_cons_mk (shut_int Try.underlying3 hz2) trodAll_mk0))), rfl, hb.frame _, fun h => by cases h⟩

theorem said : Rows.RoundsDistSaid :=
  OpenClaim.holds_of_cond 8 Try.f8 rfl rfl rfl rfl rfl rfl rfl ⟨rfl, rfl, rfl, rfl, rfl⟩ rfl rfl rfl rfl rfl (by kernel_rfl) Try.func8 (by kernel_rfl)
    (of_decide_eq_true (by kernel_rfl)) (by unfold Func.isWrapper; first | (rw [if_pos (by decide +kernel)]; kernel_rfl) | (rw [if_neg (by decide +kernel)]; exact ⟨rfl, rfl⟩))
    (fun os started H enc _ F => by rw [OpenClaim.pre_eq_preRow]; exact lifted os started H enc F)
end Go.Proofs.Ytbholafggbdieaa.roundsDist
