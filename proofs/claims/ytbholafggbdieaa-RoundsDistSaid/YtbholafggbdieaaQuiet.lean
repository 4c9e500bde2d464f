/- quiet: nothing was said. -/
import Derived.Test.YtbholafggbdieaaChg
namespace Go.Proofs.Ytbholafggbdieaa
open Go.RowKit

/-- A round's cells: the job, the next state, the code. -/
def rndV (j : Jb) (ev : Value) (s : Stt) (vv mv : Value) (code : Int) : Array Value :=
  #[.int .i64 j.n, ev, .int .i64 j.kind, .int .i64 j.src, .int .i64 s.step, .int .i64 s.phase, .bool s.fresh, .bool s.done, vv, mv, .int .i64 code]

def QuietR (R : Nat) (j : Jb) (ev : Value) (s : Stt) (vv mv : Value) (w : World) (e : Ending) (w' : World) : Prop :=
  e = .returned (.tuple #[]) ∧ Chg (· = R) w w' ∧ Bk w' R 64 (rndV j ev { s with phase := (quietG j.kind s.phase (openB s.vals)).1, fresh := (quietG j.kind s.phase (openB s.vals)).2.1, done := (quietG j.kind s.phase (openB s.vals)).2.2 } vv mv 0)

set_option maxRecDepth 10000 in
set_option maxHeartbeats 1000000 in
theorem quiet_any (R : Nat) (j : Jb) (ev : Value) (s : Stt) (vv mv : Value) (w : World) (hR : Bk w R 64 (rndV j ev s vv mv 0)) (hf : s.fresh = false) (hd : s.done = false) (hp : s.phase = 0 ∨ s.phase = 1) (hv : Sl 2 encV w w.heap.size vv s.vals) :
    Calls Try.prog 29 #[.pointer (some ⟨R, 0, none⟩)] w (QuietR R j ev s vv mv w) := by
  have CO := Lib.hid (contains_any s.vals vv w hv)
  have c8 := hR.cell 8
  unfold rndV at c8
  simp only [List.getElem?_toArray] at c8
  obtain ⟨n, es, kind, src⟩ := j
  obtain ⟨step, phase, fresh, done, vals, mail⟩ := s
  simp only at hf hd hp c8 hv CO
  subst hf hd
  unfold rndV at hR
  simp only at hR
  generalize hop : openB vals = op at *
  have HOP := Lib.hid hop; clear hop
  by_cases hk : kind = 3
  · subst hk
    rcases hp with rfl | rfl
    · skip
      go_enter Try.func29, Try.ntmps29
      go_wp2_with fail
      refine CO.out.mono ?_
      rintro e w1 ⟨rfl, hb1⟩
      have hr1 := hR.old hb1
      have k2 := hr1.cell 2
      have k5 := hr1.cell 5
      have k6 := hr1.cell 6
      have k7 := hr1.cell 7
      have f5 := hr1.froz 5
      have f6 := hr1.froz 6
      have f7 := hr1.froz 7
      simp only [List.getElem?_toArray] at k2 k5 k6 k7
      have HR1 := Lib.hid hr1
      have HG := Lib.hid (chg_of hb1 (· = R))
      clear hr1 hb1
      go_wp2
      go_end0
      exact ⟨rfl, (HG.out.setCell (p := ⟨R, 5, none⟩) rfl _).setCell (p := ⟨R, 6, none⟩) rfl _, (HR1.out.set 5 _).set 6 _⟩
    · cases op
      · skip
        go_enter Try.func29, Try.ntmps29
        go_wp2_with fail
        refine CO.out.mono ?_
        rintro e w1 ⟨rfl, hb1⟩
        have hr1 := hR.old hb1
        have k2 := hr1.cell 2
        have k5 := hr1.cell 5
        have k6 := hr1.cell 6
        have k7 := hr1.cell 7
        have f5 := hr1.froz 5
        have f6 := hr1.froz 6
        have f7 := hr1.froz 7
        simp only [List.getElem?_toArray] at k2 k5 k6 k7
        have HR1 := Lib.hid hr1
        have HG := Lib.hid (chg_of hb1 (· = R))
        clear hr1 hb1
        go_wp2
        go_end0
        refine ⟨rfl, HG.out.setCell (p := ⟨R, 7, none⟩) rfl _, ?_⟩
        simp only [HOP.out]
        exact HR1.out.set 7 _
      · skip
        go_enter Try.func29, Try.ntmps29
        go_wp2_with fail
        refine CO.out.mono ?_
        rintro e w1 ⟨rfl, hb1⟩
        have hr1 := hR.old hb1
        have k2 := hr1.cell 2
        have k5 := hr1.cell 5
        have k6 := hr1.cell 6
        have k7 := hr1.cell 7
        have f5 := hr1.froz 5
        have f6 := hr1.froz 6
        have f7 := hr1.froz 7
        simp only [List.getElem?_toArray] at k2 k5 k6 k7
        have HR1 := Lib.hid hr1
        have HG := Lib.hid (chg_of hb1 (· = R))
        clear hr1 hb1
        go_wp2
        go_end0
        refine ⟨rfl, (HG.out.setCell (p := ⟨R, 5, none⟩) rfl _).setCell (p := ⟨R, 6, none⟩) rfl _, ?_⟩
        simp only [HOP.out]
        exact (HR1.out.set 5 _).set 6 _
  · have tk : (kind != 3) = true := bne_iff_ne.2 hk
    go_enter Try.func29, Try.ntmps29
    go_wp2_with fail
    refine CO.out.mono ?_
    rintro e w1 ⟨rfl, hb1⟩
    have hr1 := hR.old hb1
    have k2 := hr1.cell 2
    have k5 := hr1.cell 5
    have k6 := hr1.cell 6
    have k7 := hr1.cell 7
    have f5 := hr1.froz 5
    have f6 := hr1.froz 6
    have f7 := hr1.froz 7
    simp only [List.getElem?_toArray] at k2 k5 k6 k7
    have HR1 := Lib.hid hr1
    have HG := Lib.hid (chg_of hb1 (· = R))
    clear hr1 hb1
    go_wp2
    go_end0
    have HQ : Hid (quietG kind phase op = (phase, false, true)) := by unfold Hid quietG; rw [if_pos hk]
    refine ⟨rfl, HG.out.setCell (p := ⟨R, 7, none⟩) rfl _, ?_⟩
    simp only [HOP.out, HQ.out]
    exact HR1.out.set 7 _
end Go.Proofs.Ytbholafggbdieaa
