/- RoundsAlone: the order of edges does not matter. -/
import Derived.Test.YtbholafggbdieaaJobGood
import Derived.Test.YtbholafggbdieaaRan
import Derived.Test.YtbholafggbdieaaSame
namespace Go.Proofs.Ytbholafggbdieaa
open Go.RowKit

/-- A job whose raw edges are none has nil edges. -/
def NilJobR (j : Jb) (w : World) (e : Ending) (w' : World) : Prop := e = .returned (.agg #[.int .i64 j.n, .slice none 0 0, .int .i64 j.kind, .int .i64 j.src]) ∧ Below w.heap.size w w'
def NilMadeR (n : Int) (w : World) (e : Ending) (w' : World) : Prop := e = .returned (.agg #[.int .i64 n, .slice none 0 0]) ∧ Below w.heap.size w w'
set_option maxRecDepth 10000 in
set_option maxHeartbeats 1000000 in
theorem made_nil (n0 most : Int) (A : Option Addr) (c : Nat) (w : World) (hn : I64 n0) (hm0 : 0 < most) (hm1 : most ≤ 100) :
    Calls Try.prog 19 #[.int .i64 n0, .slice A 0 c, .int .i64 most] w (NilMadeR (1 + pickG n0 most) w) := by
  obtain ⟨p0, p1⟩ := pick_range n0 most hm0
  have PK := Lib.hid (fun W => picked_any n0 most hn hm0 (by omega) W)
  generalize pickG n0 most = pn at *
  go_enter Try.func19, Try.ntmps19
  go_wp2_with (go_at_call 11; refine (PK.out _).mono ?_; rintro e w1 ⟨rfl, rfl⟩)
  go_loopw [8] (fun i wr => i = .int .i64 0 ∧ Bk wr w.heap.size 25 #[.int .i64 0, .slice none 0 0] ∧ Bk wr (w.heap.size + 1) 25 #[.int .i64 (1 + pn), .slice none 0 0] ∧ Below w.heap.size w wr) (fun i _ => 0)
  case atStart => exact ⟨rfl, (Bk.new _ _ _).alloc _, cellr _ _ _ _, below_two _ _ _⟩
  case round =>
    obtain ⟨rfl, hr, hg, hbel⟩ := hrel
    have g0 : wr.cell? ⟨w.heap.size + 1, 0, none⟩ = some (.int .i64 (1 + pn)) := hg.cell 0
    have g1 : wr.cell? ⟨w.heap.size + 1, 1, none⟩ = some (.slice none 0 0) := hg.cell 1
    have r0 : wr.cell? ⟨w.heap.size, 0, none⟩ = some (.int .i64 0) := hr.cell 0
    have r1 : wr.cell? ⟨w.heap.size, 1, none⟩ = some (.slice none 0 0) := hr.cell 1
    have f0 := hr.froz 0
    have f1 := hr.froz 1
    have HR := Lib.hid hr
    clear hr hg
    go_wp2
    all_goals
      have RB := (HR.out.set 0 (.int .i64 (1 + pn))).set 1 (.slice none 0 0)
      have d0 := (RB.cell 0).trans (show _ = some (Value.int .i64 (1 + pn)) from rfl)
      have d1 := (RB.cell 1).trans (show _ = some (Value.slice none 0 0) from rfl)
      refine bodyPost_ret (v := .agg #[.int .i64 (1 + pn), .slice none 0 0]) ?_ rfl ⟨rfl, (hbel.setCell (p := ⟨w.heap.size, 0, none⟩) (by simp) _).setCell (p := ⟨w.heap.size, 1, none⟩) (by simp) _⟩
      simp [results, Try.f19, go_sem, d0, d1]

set_option maxRecDepth 10000 in
set_option maxHeartbeats 1000000 in
theorem job_nil (n0 kind src : Int) (A : Option Addr) (c : Nat) (w : World) (hn : I64 n0) (hk : I64 kind) (hs : I64 src) :
    Calls Try.prog 9 #[.int .i64 n0, .slice A 0 c, .int .i64 kind, .int .i64 src] w (NilJobR ⟨1 + pickG n0 6, [], 1 + pickG kind 3, pickG src (1 + pickG n0 6)⟩ w) := by
  obtain ⟨p0, p1⟩ := pick_range n0 6 (by decide)
  have MD := Lib.hid (fun W => made_nil n0 6 A c W hn (by decide) (by decide))
  have PK := Lib.hid (fun W => picked_any kind 3 hk (by decide) (by decide) W)
  have PS := Lib.hid (fun W => picked_any src (1 + pickG n0 6) hs (by omega) (by omega) W)
  obtain ⟨k0, k1⟩ := pick_range kind 3 (by decide)
  generalize pickG n0 6 = pn at *
  generalize pickG kind 3 = pk at *
  generalize pickG src (1 + pn) = ps at *
  go_enter Try.func9, Try.ntmps9
  go_wp2_with fail
  refine (MD.out _).mono ?_
  rintro e w1 ⟨rfl, hb1⟩
  have rb := (Bk.new w 27 #[.int .i64 0, .slice none 0 0, .int .i64 0, .int .i64 0]).old hb1
  have HB := Lib.hid ((Below.of_alloc w _).trans (hb1.mono (by simp)))
  have RB := Lib.hid rb
  clear hb1 rb
  go_wp2_with fail
  refine wp_region_still_tail 9 (by kernel_rfl) (by kernel_rfl) ?_
  simp only [List.take_succ_cons, List.take_zero, List.drop_succ_cons, List.drop_zero]
  change wpStill _ _ (World.drew _) _ _ _
  still_step
  still_step
  still_call ((PK.out _).mono fun _ _ ⟨a, b⟩ => ⟨a, b.symm⟩)
  still_step
  still_step
  still_step
  still_step
  still_call ((PS.out _).mono fun _ _ ⟨a, b⟩ => ⟨a, b.symm⟩)
  still_step
  refine wpStill_nil ?_
  change wpList _ _ _ _ _ (World.drew _)
  have RD := ((RB.out.alloc (.cells #[.int .i64 (1 + pn), .slice none 0 0] 25)).drew)
  have BD := Lib.hid ((HB.out.alloc HB.out.size (.cells #[.int .i64 (1 + pn), .slice none 0 0] 25)).drew)
  generalize (w1.alloc (.cells #[.int .i64 (1 + pn), .slice none 0 0] 25)).drew = Wd at *
  have r0 := RD.cell 0
  have r1 := RD.cell 1
  have r2 := RD.cell 2
  have r3 := RD.cell 3
  have f0 := RD.froz 0
  have f1 := RD.froz 1
  have f2 := RD.froz 2
  have f3 := RD.froz 3
  simp only [List.getElem?_toArray] at r0 r1 r2 r3
  have RD2 := Lib.hid RD
  clear RD
  go_wp2
  have RE := (((RD2.out.set 0 (.int .i64 (1 + pn))).set 1 (.slice none 0 0)).set 2 (.int .i64 (1 + pk))).set 3 (.int .i64 ps)
  have d0 := (RE.cell 0).trans (show _ = some (Value.int .i64 (1 + pn)) from rfl)
  have d1 := (RE.cell 1).trans (show _ = some (Value.slice none 0 0) from rfl)
  have d2 := (RE.cell 2).trans (show _ = some (Value.int .i64 (1 + pk)) from rfl)
  have d3 := (RE.cell 3).trans (show _ = some (Value.int .i64 ps) from rfl)
  refine bodyPost_ret (v := .agg #[.int .i64 (1 + pn), .slice none 0 0, .int .i64 (1 + pk), .int .i64 ps]) ?_ rfl ⟨rfl, (((BD.out.setCell (p := ⟨w.heap.size, 0, none⟩) (by simp) _).setCell (p := ⟨w.heap.size, 1, none⟩) (by simp) _).setCell (p := ⟨w.heap.size, 2, none⟩) (by simp) _).setCell (p := ⟨w.heap.size, 3, none⟩) (by simp) _⟩
  simp [results, Try.f9, go_sem, d0, d1, d2, d3]
end Go.Proofs.Ytbholafggbdieaa
