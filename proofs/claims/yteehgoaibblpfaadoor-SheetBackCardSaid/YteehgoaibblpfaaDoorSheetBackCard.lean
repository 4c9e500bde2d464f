/- Whatever the graph: what is shown of it is read as the same graph, and a graph that is none is not shown. For every input. -/
import Derived.Test.YteehgoaibblpfaaDoorSheetWalks
import Derived.Test.YteehgoaibblpfaaDoorEnvOf
import Derived.Test.YteehgoaibblpfaaDoorOpen
import Derived.Lib.SmallJoins
import Derived.Test.YteehgoaibblpfaaDoorCards
import Derived.Test.YteehgoaibblpfaaDoorTie
namespace Go.Proofs.YteehgoaibblpfaaDoor.sheetBack
open Go
open Go.ChangeShapes Go.WideShapes Go.ChangeAt Go.RowKit Go.Proofs.YteehgoaibblpfaaDoor

set_option maxRecDepth 100000 in
theorem lifted (os : Os) (started : os.Started) (H : Type) (enc : TypeId × Value → H) (F : Stop.Interp) :
    ReturnsInHanded {} Tryd.checked os 3 .any ((OpenSpec.ofChange Rows.sheetBackSpec).preRow enc Tryd.prog Tryd.f3 Rows.sheetBackRow.domain false Rows.sheetBackRow.laid) (((OpenSpec.ofChange Rows.sheetBackSpec).at F).post enc Tryd.prog Tryd.f3 false true false false) := by
  refine returnsInHanded_of_row (C := Tryd.checked) (s := OpenSpec.ofChange Rows.sheetBackSpec) own started (by kernel_rfl) Tryd.func3
    (witness_at (enc := enc) (C := Tryd.checked) (World.laidAll Tryd.prog os Rows.sheetBackRow.laid) #[.agg #[.int .i64 0, .slice none 0 0]] (World.laidAll_os _ _ _) (World.shaped_of_ZipB (by kernel_rfl) (by kernel_rfl)) (by kernel_rfl)
      (OpenSpec.preRow_of_cond 8 (x := ([.agg [.lit (.int .i64 0), .nil]], [], [])) (by kernel_rfl) (by kernel_rfl) (fun k hk => by cases hk) (by kernel_rfl) (by rw [MakeChecks.laidMetH_plain _ _ _ (by kernel_rfl)]; exact laidMet_laidAll _ (by kernel_rfl) (by kernel_rfl)))) ?_
  intro W base args ds gs before hval hW _ _ _ hL hsh _
  have hW' := hW
  obtain ⟨p, q, hA0, hV, rfl, _, _⟩ := hW
  have hA : DataW.TrodAll enc Tryd.prog W 0 (fun _ => true) true Tryd.f3.params.toList args.toList ds p := hA0
  rw [Tryd.params3] at hA hval
  obtain ⟨v0, d0, rfl, rfl, h0⟩ := trodAll_one hA
  obtain ⟨rfl, rfl⟩ := trodVars_none hV
  simp only [List.append_nil] at hW'
  have hlt : ∀ x ∈ p, x.block < W.heap.size := fun x hx => by simpa using hW'.lt x hx
  have h0k := h0
  obtain ⟨v1, v2, y1, y2, n, rfl, rfl, rfl, h1, h2⟩ := Joins.open_agg2 Tryd.underlying24 (by kernel_rfl) (by kernel_rfl) (hval 0 24 v0 rfl rfl) h0
  obtain ⟨z, hz, _, _⟩ := one_i64 Tryd.underlying3 h1
  obtain ⟨v, l, hv, hl, hsl⟩ := slice_ints Tryd.underlying22 Tryd.underlying58 (by kernel_rfl) (by kernel_rfl) (by decide) (fun i f hf => by
    match i, hf with
    | 0, hf => cases hf; exact Tryd.underlying3
    | 1, hf => cases hf; exact Tryd.underlying3
    | 2, hf => cases hf; exact Tryd.underlying3
    | n + 3, hf => simp at hf) h2
  simp only [List.cons.injEq, and_true] at hz hv
  subst hz hv
  rw [MakeChecks.laidMetH_plain _ _ _ (by kernel_rfl)] at hL
  have hE : Env W := env_of hL (by simp) (by simp) hsh
  have hse := hsl.map (e2 := encE) (fun z => (⟨z.getD 0 0, z.getD 1 0, z.getD 2 0⟩ : Ed)) fun z hz => by
    obtain ⟨hz3, _⟩ := hl z hz
    match z, hz3 with
    | [a, b, c], _ => rfl
  refine (sheetBack_any _ _ _ W hse hE).mono fun e W' ⟨he, hb⟩ => ?_
  subst he
  exact ⟨_, rfl, _, _, _, [], _, [], hW', trodAll_mk1 (shut_bool Tryd.underlying4 _), (trodAll_mk1 (Below.trod laidOut (by kernel_rfl) (of_decide_eq_true (by kernel_rfl)) h0k hb hlt)), rfl, hb.frame _, fun h => by cases h⟩

theorem said : Rows.SheetBackSaid :=
  OpenClaim.holds_of_cond 3 Tryd.f3 rfl rfl rfl rfl rfl rfl rfl ⟨rfl, rfl, rfl, rfl, rfl⟩ rfl rfl rfl rfl rfl (by kernel_rfl) Tryd.func3 (by kernel_rfl)
    (of_decide_eq_true (by kernel_rfl)) (by unfold Func.isWrapper; first | (rw [if_pos (by decide +kernel)]; kernel_rfl) | (rw [if_neg (by decide +kernel)]; exact ⟨rfl, rfl⟩))
    (fun os started H enc _ F => by rw [OpenClaim.pre_eq_preRow]; exact lifted os started H enc F)
theorem plain (f : FuncId) (fn : Func) (hf : Tryd.pinned.checked.prog.funcNamed "paceline/pacelinekeep.SheetBack" = some f) (hfn : Tryd.pinned.checked.prog.funcs[f]? = some fn) :
    true = Tryd.pinned.checked.prog.looks [] ∧ ∀ (j : Nat) t, fn.params[j]? = some t → Tryd.pinned.checked.prog.wantsStandIn t = false := by
  obtain rfl : f = 3 := Option.some.inj ((show Tryd.prog.funcNamed "paceline/pacelinekeep.SheetBack" = some 3 by kernel_rfl).symm.trans hf) |>.symm
  obtain rfl : fn = Tryd.f3 := (Option.some.inj (Tryd.func3.symm.trans hfn)).symm
  refine ⟨by kernel_rfl, fun j t ht => ?_⟩
  rw [Tryd.params3] at ht
  have hm : t ∈ [24] := by simpa using Array.mem_of_getElem? ht
  have hall : ([24].all fun u => !Tryd.prog.wantsStandIn u) = true := by kernel_rfl
  exact (show Tryd.prog.wantsStandIn t = false by simpa using List.all_eq_true.1 hall t hm)
theorem card : Rows.SheetBackCardSaid :=
  Claim7.holds_tied_plain_at .later [] _ _ _ _ said (fun _ h => by cases h) (by kernel_rfl) (fun _ h => by cases h) sheetBack_row_tie rfl ⟨rfl, rfl⟩ (by kernel_rfl) rfl plain (by kernel_rfl)
end Go.Proofs.YteehgoaibblpfaaDoor.sheetBack
