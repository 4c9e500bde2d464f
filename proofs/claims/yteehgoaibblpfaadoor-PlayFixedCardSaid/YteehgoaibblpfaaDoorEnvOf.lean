/- What a row's list and the world's shape give the walks. -/
import Derived.Test.YteehgoaibblpfaaDoorWords
import Derived.Test.YteehgoaibblpfaaDoorRows
import Derived.Stop.LaidErr
import Derived.ProofKit
import Derived.OpenShut
import Derived.Deep.DeepHandedRow
import Derived.Lib.LaidTab
import Derived.Lib.LaidU8
import Derived.Lay
import Derived.ShapedOpen
import Derived.Carry
namespace Go.Proofs.YteehgoaibblpfaaDoor
open Go.RowKit

theorem own : ownKnob Tryd.prog.godebug = none := by kernel_rfl

theorem laidOut : laidOutB Tryd.prog = true := by kernel_rfl

theorem iface_cell {P : Program} {w : World} {n nm : String} {g t : Nat} {ms : Array (String × TypeId)} {d : DataW Unit} (hg : P.globalNamed n = some g) (ht : (P.globals[g]?).map (·.type) = some t) (hi : P.underlying t = some (.interface ms))
    (h : Lib.VarReads P w n (.iface nm d)) : ∃ u p, w.cell? ⟨g, 0, none⟩ = some (.iface u p) := by
  obtain ⟨g', t', cs, fuel, p, hg', ht', hv, hd⟩ := h
  obtain rfl := Option.some.inj (hg.symm.trans hg')
  obtain rfl := Option.some.inj (ht.symm.trans ht')
  have hc := World.var?_cell hg' hv 0
  obtain ⟨l⟩ := cs
  cases fuel with
  | zero => simp [DataW.trod] at hd
  | succ fuel =>
    simp only [DataW.trod, hi] at hd
    split at hd <;> simp_all

/-- The kit's number law reads this; the world's shape gives it. -/
theorem mx_of {W : World} (h : W.ShapedOpen Tryd.prog) : ∃ m, W.cell? ⟨2, 0, none⟩ = some (.int .i64 m) := Tryd.laysM143.s1_3 W h

/-- THE ENVIRONMENT, from a row's list and the world's shape. -/
theorem env_of {a b : String × DataW Unit} {rest : List (String × DataW Unit)} {W : World}
    (h : laidMet Tryd.prog (a :: b :: ("internal/strconv.uint64pow10", Rows.laid_internal_strconv_uint64pow10) :: rest) W)
    (hr : ("strconv.ErrRange", Rows.laid_strconv_ErrRange) ∈ rest) (hs : ("strconv.ErrSyntax", Rows.laid_strconv_ErrSyntax) ∈ rest) (hsh : W.ShapedOpen Tryd.prog) : Env W where
  pow := Lib.tabIs_of_head (zs := Lib.pow10Tab) (rest := rest) gPow (by kernel_rfl) (by kernel_rfl : Tryd.prog.underlying 100 = some (.array 20 84)) (by kernel_rfl) (by kernel_rfl) (by kernel_rfl) h.tail.tail
  mx := mx_of hsh
  syn := iface_cell (P := Tryd.prog) (g := 3) (t := 51) (by kernel_rfl) (by kernel_rfl) Tryd.underlying51 (Lib.laidMet.reads h (n := "strconv.ErrSyntax") (d := Rows.laid_strconv_ErrSyntax) (List.mem_cons_of_mem _ (List.mem_cons_of_mem _ (List.mem_cons_of_mem _ hs))))
  rng := iface_cell (P := Tryd.prog) (g := 4) (t := 51) (by kernel_rfl) (by kernel_rfl) Tryd.underlying51 (Lib.laidMet.reads h (n := "strconv.ErrRange") (d := Rows.laid_strconv_ErrRange) (List.mem_cons_of_mem _ (List.mem_cons_of_mem _ (List.mem_cons_of_mem _ hr))))

/-- An input that fits, at a world whose shape is known. -/
theorem witness_at {H : Type} {enc : TypeId × Value → H} {C : Checked} {os : Os} {f : FuncId} {fn : Func} {s : OpenSpec} {conds : List PathCond} {apart : Bool} {laid : List (String × DataW Unit)} (w0 : World) (args : Array Value) (hos : w0.os = os)
    (hsh : (w0.forCall (fun _ _ => 0) ⟨#[], args, []⟩).Shaped C.prog)
    (hok : Input.okWideB C.prog (w0.forCall (fun _ _ => 0) ⟨#[], args, []⟩) f ⟨#[], args, []⟩ = true)
    (hrow : s.preRow enc C.prog fn conds apart laid (w0.forCall (fun _ _ => 0) ⟨#[], args, []⟩).memory args) :
    ∃ (w : World) (tape : Tape) (i : Input), w.os = os ∧ (w.forCall tape i).Shaped C.prog ∧ i.vars = [] ∧ Input.okWide C.prog (w.forCall tape i) .any w.heap.size f i ∧
      s.preRow enc C.prog fn conds apart laid (w.forCall tape i).memory i.args ∧ ({} : Assume).holds C.prog (lone (Frame.enter C.prog f i.args .normal) [] (w.forCall tape i)) :=
  ⟨w0, fun _ _ => 0, ⟨#[], args, []⟩, hos, hsh, (Input.okWide_of_okWideB (base := 0) hok).1, (Input.okWide_of_okWideB hok).2, hrow, by
    simp only [Assume.holds]
    exact ⟨by simp, by simp, fun _ => Modest.zero, by simp, by simp⟩⟩
end Go.Proofs.YteehgoaibblpfaaDoor
