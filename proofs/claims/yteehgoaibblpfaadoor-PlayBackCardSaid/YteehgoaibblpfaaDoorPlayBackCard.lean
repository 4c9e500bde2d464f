/- Whatever moves are made of the numbers: they are shown, and read as they were shown. For every input. -/
import Derived.Test.YteehgoaibblpfaaDoorPlayWalks
import Derived.Test.YteehgoaibblpfaaDoorEnvOf
import Derived.Test.YteehgoaibblpfaaDoorOpen
import Derived.Carry
import Derived.Test.YteehgoaibblpfaaDoorCards
import Derived.Test.YteehgoaibblpfaaDoorTie
namespace Go.Proofs.YteehgoaibblpfaaDoor.playBack
open Go.ChangeMaps (open_string shut_string)
open Go.ChangeShapes Go.WideShapes Go.ChangeAt Go.RowKit Go.Proofs.YteehgoaibblpfaaDoor

set_option maxRecDepth 100000 in
theorem lifted (os : Os) (started : os.Started) (H : Type) (enc : TypeId × Value → H) (F : Stop.Interp) :
    ReturnsInHanded {} Tryd.checked os 5 .any ((OpenSpec.ofChange Rows.playBackSpec).preRow enc Tryd.prog Tryd.f5 Rows.playBackRow.domain false Rows.playBackRow.laid) (((OpenSpec.ofChange Rows.playBackSpec).at F).post enc Tryd.prog Tryd.f5 false true false false) := by
  refine returnsInHanded_of_row (C := Tryd.checked) (s := OpenSpec.ofChange Rows.playBackSpec) own started (by kernel_rfl) Tryd.func5
    (witness_at (enc := enc) (C := Tryd.checked) (World.laidAll Tryd.prog os Rows.playBackRow.laid) #[.slice none 0 0, .int .i64 0] (World.laidAll_os _ _ _) (World.shaped_of_ZipB (by kernel_rfl) (by kernel_rfl)) (by kernel_rfl)
      (OpenSpec.preRow_of_cond 8 (x := ([.nil, .lit (.int .i64 0)], [], [])) (by kernel_rfl) (by kernel_rfl) (fun k hk => by cases hk) (by kernel_rfl) (by rw [MakeChecks.laidMetH_plain _ _ _ (by kernel_rfl)]; exact laidMet_laidAll _ (by kernel_rfl) (by kernel_rfl)))) ?_
  intro W base args ds gs before hval hW _ _ _ hL hsh _
  have hW' := hW
  obtain ⟨p, q, hA0, hV, rfl, _, _⟩ := hW
  have hA : DataW.TrodAll enc Tryd.prog W 0 (fun _ => true) true Tryd.f5.params.toList args.toList ds p := hA0
  rw [Tryd.params5] at hA hval
  obtain ⟨v0, v1, d0, d1, p0, p1, rfl, rfl, rfl, h0, h1⟩ := trodAll_two hA
  obtain ⟨rfl, rfl⟩ := trodVars_none hV
  simp only [List.append_nil] at hW'
  have hlt : ∀ x ∈ p0, x.block < W.heap.size := fun x hx => hW'.lt x (by simp [hx])
  have h0k := h0
  obtain ⟨kp, rfl, rfl, rfl, hkp⟩ := open_int Tryd.underlying3 (hval 1 3 v1 rfl rfl) h1
  have hkp' : I64 kp := by simpa [Lit.wf, IntKind.min, IntKind.max, IntKind.signed, IntKind.bits, I64] using hkp
  obtain ⟨n, h0⟩ := h0
  obtain ⟨v, l, hv, hl, hsl⟩ := slice_ints Tryd.underlying34 Tryd.underlying40 (by kernel_rfl) (by kernel_rfl) (by decide) (fun i f hf => by
    match i, hf with
    | 0, hf => cases hf; exact Tryd.underlying3
    | 1, hf => cases hf; exact Tryd.underlying3
    | n + 2, hf => simp at hf) h0
  obtain ⟨sa, sl, sc, rfl⟩ := okWide_slice Tryd.underlying34 (hval 0 34 v0 rfl rfl)
  obtain rfl : Value.slice sa sl sc = v := by simpa [Value.cells] using hv
  rw [MakeChecks.laidMetH_plain _ _ _ (by kernel_rfl)] at hL
  have hE : Env W := env_of hL (by simp) (by simp) hsh
  have hF : Forms W := forms_of (Lib.laidMet.reads hL (n := "paceline/play.forms") (d := Rows.laid_paceline_play_forms) (by rw [show Rows.playBackRow.laid = [_, _, _, _, _, _, ("paceline/play.forms", Rows.laid_paceline_play_forms), _] from rfl]; simp))
  have hse := hsl.map (e2 := encT) (fun z => (⟨z.getD 0 0, z.getD 1 0⟩ : Tr)) fun z hz => by
    obtain ⟨hz3, _⟩ := hl z hz
    match z, hz3 with
    | [a, b], _ => rfl
  refine (playBack_any _ _ kp (fun t ht => by
    obtain ⟨z, hz, rfl⟩ := List.mem_map.1 ht
    obtain ⟨hz3, hb⟩ := hl z hz
    match z, hz3 with
    | [a, b], _ => exact ⟨hb a (by simp), hb b (by simp)⟩) hkp' W hse hE hF).mono fun e W' ⟨he, hb⟩ => ?_
  subst he
  exact ⟨_, rfl, _, _, _, [], _, [], hW', trodAll_mk1 (shut_bool Tryd.underlying4 _), trodAll_mk2 (Below.trod laidOut (by kernel_rfl) (of_decide_eq_true (by kernel_rfl)) h0k hb hlt) (shut_int Tryd.underlying3 hkp), rfl, hb.frame _, fun h => by cases h⟩

theorem said : Rows.PlayBackSaid :=
  OpenClaim.holds_of_cond 5 Tryd.f5 rfl rfl rfl rfl rfl rfl rfl ⟨rfl, rfl, rfl, rfl, rfl⟩ rfl rfl rfl rfl rfl (by kernel_rfl) Tryd.func5 (by kernel_rfl)
    (of_decide_eq_true (by kernel_rfl)) (by unfold Func.isWrapper; first | (rw [if_pos (by decide +kernel)]; kernel_rfl) | (rw [if_neg (by decide +kernel)]; exact ⟨rfl, rfl⟩))
    (fun os started H enc _ F => by rw [OpenClaim.pre_eq_preRow]; exact lifted os started H enc F)
theorem plain (f : FuncId) (fn : Func) (hf : Tryd.pinned.checked.prog.funcNamed "paceline/pacelinekeep.PlayBack" = some f) (hfn : Tryd.pinned.checked.prog.funcs[f]? = some fn) :
    true = Tryd.pinned.checked.prog.looks [] ∧ ∀ (j : Nat) t, fn.params[j]? = some t → Tryd.pinned.checked.prog.wantsStandIn t = false := by
  obtain rfl : f = 5 := Option.some.inj ((show Tryd.prog.funcNamed "paceline/pacelinekeep.PlayBack" = some 5 by kernel_rfl).symm.trans hf) |>.symm
  obtain rfl : fn = Tryd.f5 := (Option.some.inj (Tryd.func5.symm.trans hfn)).symm
  refine ⟨by kernel_rfl, fun j t ht => ?_⟩
  rw [Tryd.params5] at ht
  have hm : t ∈ [34, 3] := by simpa using Array.mem_of_getElem? ht
  have hall : ([34, 3].all fun u => !Tryd.prog.wantsStandIn u) = true := by kernel_rfl
  exact (show Tryd.prog.wantsStandIn t = false by simpa using List.all_eq_true.1 hall t hm)
theorem card : Rows.PlayBackCardSaid :=
  Claim7.holds_tied_plain_at .later [] _ _ _ _ said (fun _ h => by cases h) (by kernel_rfl) (fun _ h => by cases h) playBack_row_tie rfl ⟨rfl, rfl⟩ (by kernel_rfl) rfl plain (by kernel_rfl)
end Go.Proofs.YteehgoaibblpfaaDoor.playBack
