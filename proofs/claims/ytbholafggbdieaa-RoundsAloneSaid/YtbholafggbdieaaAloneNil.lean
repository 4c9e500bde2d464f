/- RoundsAlone where there are no edges. -/
import Derived.Test.YtbholafggbdieaaAloneWalk
namespace Go.Proofs.Ytbholafggbdieaa
open Go.RowKit

set_option maxRecDepth 10000 in
set_option maxHeartbeats 400000 in
theorem alone_nil (n0 kind src turn : Int) (A : Option Addr) (c : Nat) (w : World) (hn : I64 n0) (hk : I64 kind) (hs : I64 src) (ht : I64 turn) :
    Calls Try.prog 5 #[.int .i64 n0, .slice A 0 c, .int .i64 kind, .int .i64 src, .int .i64 turn] w fun e w' => e = .returned (.bool true) ∧ Below w.heap.size w w' := by
  have JB := Lib.hid (job_nil n0 kind src A c w hn hk hs)
  have a := pick_range n0 6 (by decide)
  have b := pick_range kind 3 (by decide)
  have d := pick_range src (1 + pickG n0 6) (by omega)
  obtain ⟨hj, hm⟩ := job_of (n := 1 + pickG n0 6) (es := []) (kind := 1 + pickG kind 3) (src := pickG src (1 + pickG n0 6)) (by omega) (by omega) (by simp) (by simp) (by omega) d
  have hn8 : (⟨1 + pickG n0 6, [], 1 + pickG kind 3, pickG src (1 + pickG n0 6)⟩ : Jb).n ≤ 8 := by show 1 + pickG n0 6 ≤ 8; omega
  have HES : Hid ((⟨1 + pickG n0 6, [], 1 + pickG kind 3, pickG src (1 + pickG n0 6)⟩ : Jb).es = []) := rfl
  generalize (⟨1 + pickG n0 6, [], 1 + pickG kind 3, pickG src (1 + pickG n0 6)⟩ : Jb) = j at *
  clear a b d
  have PT := Lib.hid (fun W => picked_any turn (0 + 1) ht (by omega) (by omega) W)
  have pz : pickG turn (0 + 1) = 0 := by have := pick_range turn (0 + 1) (by decide); omega
  rw [pz] at PT
  clear pz
  obtain ⟨K, K1, K2, hK, hKs⟩ := job_ends hj hn8
  have R1 := Lib.hid (fun ev W he => ran_any j hj hm K hK (by omega) ev W he)
  have GS := Lib.hid (ok_it hj hm (ok_begin hj) K (by have : (beginG j).step = 0 := rfl; omega)).good
  have NS : Hid (∀ W : World, Sl 3 encE W W.heap.size (.slice none 0 0) j.es) := fun W => by rw [HES.out]; exact Sl.nil _ _
  clear hj hm hK hKs
  obtain ⟨i0, hi0, hz0, hz1, hz2⟩ := info_parts infoEdge
  have hap : ∀ W, (Builtin.append_ #[23, 23] 23 #[.slice none 0 0, .slice none 0 0]).run Try.prog W = .ok (.slice none 0 0) W := fun W =>
    run_append_owned_none W 0 _ _ 46 i0 3 Try.underlying23 hi0 (.slice none 0 0) 0 [] (World.ownsRow_nil _ _ _ _)
  clear hi0 hz0 hz1 hz2
  go_enter Try.func5, Try.ntmps5
  go_wp2_with fail
  refine JB.out.mono ?_
  rintro e w1 ⟨rfl, hb1⟩
  have J1 := Bk.new w1 27 #[.int .i64 j.n, .slice none 0 0, .int .i64 j.kind, .int .i64 j.src]
  have J2 := cellr w1 (.cells #[.int .i64 j.n, .slice none 0 0, .int .i64 j.kind, .int .i64 j.src] 27) #[.int .i64 j.n, .slice none 0 0, .int .i64 j.kind, .int .i64 j.src] 27
  have J1' := J1.alloc (.cells #[.int .i64 j.n, .slice none 0 0, .int .i64 j.kind, .int .i64 j.src] 27)
  have B2 := below_two w1 (.cells #[.int .i64 j.n, .slice none 0 0, .int .i64 j.kind, .int .i64 j.src] 27) (.cells #[.int .i64 j.n, .slice none 0 0, .int .i64 j.kind, .int .i64 j.src] 27)
  have HW1 := Lib.hid hb1.size
  have HB2 := Lib.hid (hb1.trans (B2.mono hb1.size))
  have HJ1 := Lib.hid J1'; have HJ2 := Lib.hid J2
  clear J1 J2 J1' hb1 B2
  go_wp2_with fail
  refine (PT.out _).mono ?_
  rintro e w2 ⟨rfl, rfl⟩
  go_wp2_with fail
  have S2 : ((w1.alloc (.cells #[.int .i64 j.n, .slice none 0 0, .int .i64 j.kind, .int .i64 j.src] 27)).alloc (.cells #[.int .i64 j.n, .slice none 0 0, .int .i64 j.kind, .int .i64 j.src] 27)).heap.size = w1.heap.size + 1 + 1 := by simp
  generalize ((w1.alloc (.cells #[.int .i64 j.n, .slice none 0 0, .int .i64 j.kind, .int .i64 j.src] 27)).alloc (.cells #[.int .i64 j.n, .slice none 0 0, .int .i64 j.kind, .int .i64 j.src] 27)) = W2 at *
  have HS2 := Lib.hid S2; clear S2
  have j11 : W2.cell? ⟨w1.heap.size, 1, none⟩ = some (.slice none 0 0) := HJ1.out.cell 1
  have c21 : W2.cell? ⟨w1.heap.size + 1, 1, none⟩ = some (.slice none 0 0) := HJ2.out.cell 1
  have f21 := HJ2.out.froz 1
  refine wp_region_zs (fun w' => w'.cell? ⟨w1.heap.size, 1, none⟩ = some (.slice none 0 0)) [] (by kernel_rfl) ?_
  refine wpZ_batch (is := [0, 1, 2, 3, 4, 5, 6, 7, 8, 9, 10, 11]) (by kernel_rfl) j11 (a1 := ?_) ?_ ?_
  rotate_left
  · repeat
      (refine SeqY.run (v := ?_) rfl (by rfl) ?_ ?_
       rotate_left
       · (intro W hS; (try dsimp only at hS); go_simp; (try with_reducible rfl)))
    exact SeqY.nil
  have J24 := Lib.hid (HJ2.out.set 1 (.slice none 0 0))
  have J14 := Lib.hid (HJ1.out.far (p := ⟨w1.heap.size + 1, 1, none⟩) (by simp) (.slice none 0 0))
  have G4 := Lib.hid (HB2.out.setCell (p := ⟨w1.heap.size + 1, 1, none⟩) (by show w.heap.size ≤ w1.heap.size + 1; have := HW1.out; omega) (.slice none 0 0))
  refine wpZ_one (i := 12) (by kernel_rfl) rfl (fun K hK => ?_)
  go_simp
  refine hK.out _ _ (J14.out.cell 1) (fun _ => ?_)
  clear hK K
  refine wpZ_done (by kernel_rfl) ?_
  clear j11 c21 f21 hap
  generalize hw5 : World.setCell W2 ⟨w1.heap.size + 1, 1, none⟩ _ = W5 at *
  clear hw5
  have A0 : W5.cell? ⟨w1.heap.size, 0, none⟩ = some (.int .i64 j.n) := J14.out.cell 0
  have A1 : W5.cell? ⟨w1.heap.size, 1, none⟩ = some (.slice none 0 0) := J14.out.cell 1
  have A2 : W5.cell? ⟨w1.heap.size, 2, none⟩ = some (.int .i64 j.kind) := J14.out.cell 2
  have A3 : W5.cell? ⟨w1.heap.size, 3, none⟩ = some (.int .i64 j.src) := J14.out.cell 3
  go_wp2_with fail
  refine (R1.out _ _ (NS.out _)).mono ?_
  rintro e w6 ⟨lv, vv, mv, rfl, hl6, hr6, hb6⟩
  dsimp only [stV]
  obtain ⟨A7, c7, rfl⟩ := hr6.vals.shape
  obtain ⟨A8, c8, rfl⟩ := hr6.mail.shape
  obtain ⟨A9, c9, rfl⟩ := hl6.shape
  have D6 : Below W5.heap.size W5 w6 := (by first | exact hb6 | exact (Below.refl _ _).drew.trans hb6)
  have k1 := J14.out.old D6
  have k2 := J24.out.old D6
  have q0 : w6.cell? ⟨w1.heap.size + 1, 0, none⟩ = some (.int .i64 j.n) := k2.cell 0
  have q1 : w6.cell? ⟨w1.heap.size + 1, 1, none⟩ = some (.slice none 0 0) := k2.cell 1
  have q2 : w6.cell? ⟨w1.heap.size + 1, 2, none⟩ = some (.int .i64 j.kind) := k2.cell 2
  have q3 : w6.cell? ⟨w1.heap.size + 1, 3, none⟩ = some (.int .i64 j.src) := k2.cell 3
  have HK1 := Lib.hid k1
  have HL6 := Lib.hid hl6; have HD6 := Lib.hid D6; have HR6 := Lib.hid hr6
  have ST6 := Bk.new w6 32 #[.int .i64 (itG j K (beginG j)).step, .int .i64 (itG j K (beginG j)).phase, .bool (itG j K (beginG j)).fresh, .bool (itG j K (beginG j)).done, .slice A7 (itG j K (beginG j)).vals.length c7, .slice A8 (itG j K (beginG j)).mail.length c8]
  have HST6 := Lib.hid ST6
  have l1 := k1.lt; have l2 := k2.lt
  clear k1 k2 hl6 D6 hb6 hr6 A0 A1 A2 A3 ST6
  go_wp2_with fail
  refine (R1.out _ _ (NS.out _)).mono ?_
  rintro e w7 ⟨lv2, vv2, mv2, rfl, hl7, hr7, hb7⟩
  dsimp only [stV]
  obtain ⟨A10, c10, rfl⟩ := hr7.vals.shape
  obtain ⟨A11, c11, rfl⟩ := hr7.mail.shape
  obtain ⟨A12, c12, rfl⟩ := hl7.shape
  have D7 : Below w6.heap.size w6 w7 := (Below.of_alloc _ _).trans (hb7.mono (by simp))
  have st7 := HST6.out.old hb7
  have jj7 := HK1.out.old D7
  have m0 : w7.cell? ⟨w6.heap.size, 0, none⟩ = some (.int .i64 (itG j K (beginG j)).step) := st7.cell 0
  have n0' : w7.cell? ⟨w1.heap.size, 0, none⟩ = some (.int .i64 j.n) := jj7.cell 0
  have lt7 := st7.lt
  have lt8 := jj7.lt
  have SI := Lib.hid (sameInts_yes (ansG j (itG j K (beginG j))) _ _ _ ((HL6.out.old D7).old (Below.of_alloc w7 (.cells #[.int .i64 (itG j K (beginG j)).step, .int .i64 (itG j K (beginG j)).phase, .bool (itG j K (beginG j)).fresh, .bool (itG j K (beginG j)).done, .slice A10 (itG j K (beginG j)).vals.length c10, .slice A11 (itG j K (beginG j)).mail.length c11] 32))) (hl7.old (Below.of_alloc w7 (.cells #[.int .i64 (itG j K (beginG j)).step, .int .i64 (itG j K (beginG j)).phase, .bool (itG j K (beginG j)).fresh, .bool (itG j K (beginG j)).done, .slice A10 (itG j K (beginG j)).vals.length c10, .slice A11 (itG j K (beginG j)).mail.length c11] 32))))
  have B7 := Lib.hid (G4.out.trans ((HD6.out.trans (D7.mono HD6.out.size)).mono G4.out.size))
  have LN : Hid (((ansG j (itG j K (beginG j))).length : Int) = j.n) := by unfold Hid ansG; rw [List.length_map]; exact GS.out.vlen
  have tl : ((((ansG j (itG j K (beginG j))).length : Nat) : Int) == j.n) = true := by rw [LN.out]; simp
  have ts : ((itG j K (beginG j)).step == (itG j K (beginG j)).step) = true := by simp
  have DJ := Lib.hid D7
  clear hl7 hr7 hb7 D7 st7 jj7 q0 q1 q2 q3
  go_wp2_with fail
  have CC := Below.of_alloc w7 (.cells #[.int .i64 (itG j K (beginG j)).step, .int .i64 (itG j K (beginG j)).phase, .bool (itG j K (beginG j)).fresh, .bool (itG j K (beginG j)).done, .slice A10 (itG j K (beginG j)).vals.length c10, .slice A11 (itG j K (beginG j)).mail.length c11] 32)
  refine SI.out.mono ?_
  rintro e w8 ⟨rfl, hb8⟩
  have E8 : Below w7.heap.size w7 w8 := CC.trans (hb8.mono CC.size)
  have m8 : w8.cell? ⟨w6.heap.size, 0, none⟩ = some (.int .i64 (itG j K (beginG j)).step) := (E8.cell (p := ⟨w6.heap.size, 0, none⟩) lt7).trans m0
  have m9 : w8.cell? ⟨w7.heap.size, 0, none⟩ = some (.int .i64 (itG j K (beginG j)).step) := ((Bk.new w7 32 #[.int .i64 (itG j K (beginG j)).step, .int .i64 (itG j K (beginG j)).phase, .bool (itG j K (beginG j)).fresh, .bool (itG j K (beginG j)).done, .slice A10 (itG j K (beginG j)).vals.length c10, .slice A11 (itG j K (beginG j)).mail.length c11]).old hb8).cell 0
  have B8 := Lib.hid (B7.out.trans (E8.mono B7.out.size))
  clear E8 hb8 CC m0 n0'
  go_wp2
  go_ret
  exact ⟨rfl, B8.out⟩
end Go.Proofs.Ytbholafggbdieaa
