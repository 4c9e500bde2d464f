/- jobOf raw numbers. -/
import Derived.Test.YtbholafggbdieaaMade
namespace Go.Proofs.Ytbholafggbdieaa
open Go.RowKit

/-- The job of raw numbers. -/
def jobG (n0 : Int) (ws : List Wy) (kind src : Int) : Jb :=
  ⟨1 + pickG n0 6, madeE (1 + pickG n0 6) ws (min ws.length 10), 1 + pickG kind 3, pickG src (1 + pickG n0 6)⟩
def JobR (j : Jb) (w : World) (e : Ending) (w' : World) : Prop := ∃ ev, e = .returned (.agg #[.int .i64 j.n, ev, .int .i64 j.kind, .int .i64 j.src]) ∧ Sl 3 encE w' w'.heap.size ev j.es ∧ Below w.heap.size w w' ∧ ∀ g, ev.ownBlock = some g → w.heap.size ≤ g

set_option maxRecDepth 10000 in
set_option maxHeartbeats 1000000 in
theorem job_any (n0 kind src : Int) (ws : List Wy) (v : Value) (w : World) (hn : I64 n0) (hk : I64 kind) (hs : I64 src) (hv : Sl 3 encW w w.heap.size v ws) (hw : ∀ x ∈ ws, I64 x.f ∧ I64 x.t ∧ I64 x.g) :
    Calls Try.prog 9 #[.int .i64 n0, v, .int .i64 kind, .int .i64 src] w (JobR (jobG n0 ws kind src) w) := by
  obtain ⟨p0, p1⟩ := pick_range n0 6 (by decide)
  have MD := Lib.hid (made_any n0 6 ws v _ hn (by decide) (by decide) (hv.old (Below.of_alloc w (.cells #[.int .i64 0, .slice none 0 0, .int .i64 0, .int .i64 0] 27))) hw)
  unfold jobG
  have PK := Lib.hid (fun W => picked_any kind 3 hk (by decide) (by decide) W)
  have PS := Lib.hid (fun W => picked_any src (1 + pickG n0 6) hs (by omega) (by omega) W)
  obtain ⟨k0, k1⟩ := pick_range kind 3 (by decide)
  generalize pickG n0 6 = pn at *
  generalize pickG kind 3 = pk at *
  generalize pickG src (1 + pn) = ps at *
  go_enter Try.func9, Try.ntmps9
  go_wp2_with fail
  refine MD.out.mono ?_
  rintro e w1 ⟨ev, rfl, hsl, hb1, hfr⟩
  simp only [World.size_alloc] at hfr
  have rb := (Bk.new w 27 #[.int .i64 0, .slice none 0 0, .int .i64 0, .int .i64 0]).old hb1
  obtain ⟨A5, c5, rfl, _⟩ : ∃ A5 c5, ev = .slice A5 (madeE (1 + pn) ws (min ws.length 10)).length c5 ∧ True := by obtain ⟨A5, c5, e, _⟩ := hsl; exact ⟨A5, c5, e, trivial⟩
  have SLV := Lib.hid hsl
  have HFR := Lib.hid hfr; clear hfr
  have HB := Lib.hid ((Below.of_alloc w _).trans (hb1.mono (by simp)))
  have RB := Lib.hid rb
  clear hsl hb1 rb
  generalize (madeE (1 + pn) ws (min ws.length 10)).length = len at *
  go_wp2_with fail
  refine wp_region_still_tail 9 (by kernel_rfl) (by kernel_rfl) ?_
  simp only [List.take_succ_cons, List.take_zero, List.drop_succ_cons, List.drop_zero]
  change wpStill _ _ (World.drew _) _ _ _
  still_step
  still_step
  still_call ((PK.out _).mono fun _ _ ⟨a, b⟩ => ⟨a, b.symm⟩)
  still_step
  still_step
  still_step
  still_step
  still_call ((PS.out _).mono fun _ _ ⟨a, b⟩ => ⟨a, b.symm⟩)
  still_step
  refine wpStill_nil ?_
  change wpList _ _ _ _ _ (World.drew _)
  have RD := ((RB.out.alloc (.cells #[.int .i64 (1 + pn), .slice A5 len c5] 25)).drew)
  have SD := Lib.hid ((SLV.out.old (Below.of_alloc w1 (.cells #[.int .i64 (1 + pn), .slice A5 len c5] 25))).old (Below.refl _ _).drew)
  have BD := Lib.hid ((HB.out.alloc HB.out.size (.cells #[.int .i64 (1 + pn), .slice A5 len c5] 25)).drew)
  generalize (w1.alloc (.cells #[.int .i64 (1 + pn), .slice A5 len c5] 25)).drew = Wd at *
  have r0 := RD.cell 0
  have r1 := RD.cell 1
  have r2 := RD.cell 2
  have r3 := RD.cell 3
  have f0 := RD.froz 0
  have f1 := RD.froz 1
  have f2 := RD.froz 2
  have f3 := RD.froz 3
  simp only [List.getElem?_toArray] at r0 r1 r2 r3
  have RD2 := Lib.hid RD
  clear RD
  go_wp2
  have RE := (((RD2.out.set 0 (.int .i64 (1 + pn))).set 1 (.slice A5 len c5)).set 2 (.int .i64 (1 + pk))).set 3 (.int .i64 ps)
  have d0 := (RE.cell 0).trans (show _ = some (Value.int .i64 (1 + pn)) from rfl)
  have d1 := (RE.cell 1).trans (show _ = some (Value.slice A5 len c5) from rfl)
  have d2 := (RE.cell 2).trans (show _ = some (Value.int .i64 (1 + pk)) from rfl)
  have d3 := (RE.cell 3).trans (show _ = some (Value.int .i64 ps) from rfl)
  have hne : ∀ g, (Value.slice A5 len c5).ownBlock = some g → g ≠ w.heap.size := fun g e => by have := HFR.out g e; omega
  refine bodyPost_ret (v := .agg #[.int .i64 (1 + pn), .slice A5 len c5, .int .i64 (1 + pk), .int .i64 ps]) ?_ rfl ⟨_, rfl, ?_, (((BD.out.setCell (p := ⟨w.heap.size, 0, none⟩) (by simp) _).setCell (p := ⟨w.heap.size, 1, none⟩) (by simp) _).setCell (p := ⟨w.heap.size, 2, none⟩) (by simp) _).setCell (p := ⟨w.heap.size, 3, none⟩) (by simp) _, fun g e => by have := HFR.out g e; omega⟩
  · simp [results, Try.f9, go_sem, d0, d1, d2, d3]
  · exact (((SD.out.set ⟨w.heap.size, 0, none⟩ _ hne).set ⟨w.heap.size, 1, none⟩ _ hne).set ⟨w.heap.size, 2, none⟩ _ hne).set ⟨w.heap.size, 3, none⟩ _ hne |>.more (by simp [World.setCell])
end Go.Proofs.Ytbholafggbdieaa
