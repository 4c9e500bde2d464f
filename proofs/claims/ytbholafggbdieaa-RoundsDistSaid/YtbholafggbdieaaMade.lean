/- made: a graph of raw numbers. -/
import Derived.Test.YtbholafggbdieaaPick
import Derived.Test.YtbholafggbdieaaRoundState
import Derived.Maps.AppendAt
import Derived.OwnWalk
import Derived.Test.YtbholafggbdieaaRegionZ
namespace Go.Proofs.Ytbholafggbdieaa
open Go.RowKit

structure Wy where
  f : Int
  t : Int
  g : Int
def encW (x : Wy) : List Value := [.int .i64 x.f, .int .i64 x.t, .int .i64 x.g]
def wyE (n : Int) (x : Wy) : Ed := ⟨pickG x.f n, pickG x.t n, pickG x.g 10⟩
def madeE (n : Int) (ws : List Wy) (k : Nat) : List Ed := (ws.take k).map (wyE n)
theorem madeE_snoc {n : Int} {ws : List Wy} {k : Nat} {x : Wy} (h : ws[k]? = some x) : madeE n ws (k + 1) = madeE n ws k ++ [wyE n x] := by
  unfold madeE; rw [List.take_add_one, h]; simp
theorem madeE_len {n : Int} {ws : List Wy} {k : Nat} (h : k ≤ ws.length) : (madeE n ws k).length = k := by simp [madeE]; omega
theorem infoEdge : (Try.prog.info? 46).map (fun i => (i.zero, i.size, i.bytes)) = some (some (.agg #[.int .i64 0, .int .i64 0, .int .i64 0]), 3, 24) := by kernel_rfl
theorem cell_later {w : World} {a : Addr} {v : Value} {o : Obj} (h : w.cell? a = some v) : (w.alloc o).cell? a = some v := ((Below.of_alloc w o).cell (World.block_lt_of_cell? w _ h)).trans h
theorem grown_setCell (w : World) (a : Addr) (u : Value) : w.grownBy (w.setCell a u) (some a.block) :=
  ⟨rfl, rfl, rfl, by simp [World.setCell], fun k _ hk => Below.heap_setCell _ _ _ _ (fun e => hk (by rw [e]))⟩
theorem own_set {w : World} {base : Nat} {e : TypeId} {sz : Nat} {v : Value} {n : Nat} {xs : List Value} (h : w.ownsRow base e sz v n xs) {g : Nat} (hg : g < base) (i : Nat) (u : Value) : (w.setCell ⟨g, i, none⟩ u).ownsRow base e sz v n xs := by
  refine h.kept (grown_setCell w ⟨g, i, none⟩ u) ?_
  rcases h.2 with ⟨rfl, _⟩ | ⟨g', cap, cur, rfl, hb, _⟩
  · exact .inl rfl
  · refine .inr ?_
    intro e
    simp [Value.ownBlock] at e
    omega
theorem own_old {w w' : World} {base : Nat} {e : TypeId} {sz : Nat} {v : Value} {n : Nat} {xs : List Value} (h : w.ownsRow base e sz v n xs) (hb : Below w.heap.size w w') : w'.ownsRow base e sz v n xs :=
  h.kept (row := none) ⟨hb.os, hb.tape, hb.output, hb.size, fun k hk _ => hb.block k hk⟩ (by cases hv : v.ownBlock <;> simp)

def MadeR (n : Int) (es : List Ed) (w : World) (e : Ending) (w' : World) : Prop := ∃ ev, e = .returned (.agg #[.int .i64 n, ev]) ∧ Sl 3 encE w' w'.heap.size ev es ∧ Below w.heap.size w w' ∧ ∀ g, ev.ownBlock = some g → w.heap.size ≤ g
theorem Sl.set {α : Type} {sz : Nat} {enc : α → List Value} {w : World} {B : Nat} {v : Value} {l : List α} (h : Sl sz enc w B v l) (p : Addr) (u : Value) (hne : ∀ g, v.ownBlock = some g → g ≠ p.block) : Sl sz enc (w.setCell p u) B v l := by
  obtain ⟨A, c, rfl, h1, h2, h3⟩ := h
  refine ⟨A, c, rfl, h1, h2, fun h0 => ?_⟩
  obtain ⟨b, o, rfl, hb, hc⟩ := h3 h0
  refine ⟨b, o, rfl, hb, fun i x hx j u' hu => ?_⟩
  have hn : b ≠ p.block := hne b (by simp [Value.ownBlock])
  exact (World.cell?_of_block (w := w) (w' := w.setCell p u) (a := ⟨b, o + i * sz + j, none⟩) (Below.heap_setCell w p u b hn)).trans (hc i x hx j u' hu)

set_option maxRecDepth 10000 in
set_option maxHeartbeats 1000000 in
theorem made_any (n0 most : Int) (ws : List Wy) (v : Value) (w : World) (hn : I64 n0) (hm0 : 0 < most) (hm1 : most ≤ 100) (hv : Sl 3 encW w w.heap.size v ws) (hw : ∀ x ∈ ws, I64 x.f ∧ I64 x.t ∧ I64 x.g) :
    Calls Try.prog 19 #[.int .i64 n0, v, .int .i64 most] w (MadeR (1 + pickG n0 most) (madeE (1 + pickG n0 most) ws (min ws.length 10)) w) := by
  obtain ⟨p0, p1⟩ := pick_range n0 most hm0
  have PK := Lib.hid (fun W => picked_any n0 most hn hm0 (by omega) W)
  generalize pickG n0 most = pn at *
  obtain ⟨i0, hi0, hz0, hz1, hz2⟩ := info_parts infoEdge
  obtain ⟨A, c, rfl, hac, hcm, hA⟩ := hv
  unfold maxLen at hcm
  have HA := Lib.hid hA; have HW := Lib.hid hw
  clear hA hw
  generalize hlen : ws.length = len at *
  have HL := Lib.hid hlen; clear hlen
  go_enter Try.func19, Try.ntmps19
  go_wp2_with (go_at_call 11; refine (PK.out _).mono ?_; rintro e w1 ⟨rfl, rfl⟩)
  go_loopw [8] (fun i wr => ∃ k v, k ≤ len ∧ k ≤ 10 ∧ i = .int .i64 (k : Nat) ∧ Bk wr w.heap.size 25 #[.int .i64 0, .slice none 0 0] ∧ Bk wr (w.heap.size + 1) 25 #[.int .i64 (1 + pn), v] ∧ wr.ownsRow (w.heap.size + 2) 46 3 v k ((madeE (1 + pn) ws k).flatMap encE) ∧ Below w.heap.size w wr) (fun i _ => len - (intOf i).toNat)
  case atStart => exact ⟨0, _, Nat.zero_le _, Nat.zero_le _, rfl, (Bk.new _ _ _).alloc _, cellr _ _ _ _, World.ownsRow_nil _ _ _ _, below_two _ _ _⟩
  case round =>
    obtain ⟨k, v, hk, hk1, rfl, hr, hg, hown, hbel⟩ := hrel
    have hB := hbel.size
    have cg0 := hg.cell 0
    have cg1 := hg.cell 1
    have fg1 := hg.froz 1
    simp only [List.getElem?_toArray] at cg0 cg1
    by_cases hlt : k < len ∧ k < 10
    · obtain ⟨hlt, hlt2⟩ := hlt
      obtain ⟨b, o, rfl, hbb, hc⟩ := HA.out (by omega)
      obtain ⟨x, hx⟩ : ∃ x, ws[k]? = some x := ⟨_, List.getElem?_eq_getElem (by rw [HL.out]; exact hlt)⟩
      have hc0 := (hbel.cell (p := ⟨b, o + k * 3, none⟩) hbb).trans (hc k x hx 0 _ rfl)
      have hc1 := (hbel.cell (p := ⟨b, o + k * 3 + 1, none⟩) hbb).trans (hc k x hx 1 _ rfl)
      have hc2 := (hbel.cell (p := ⟨b, o + k * 3 + 2, none⟩) hbb).trans (hc k x hx 2 _ rfl)
      obtain ⟨x1, x2, x3⟩ := HW.out x (List.mem_of_getElem? hx)
      have P1 := Lib.hid (fun W => picked_any x.f (1 + pn) x1 (by omega) (by omega) W)
      have P2 := Lib.hid (fun W => picked_any x.t (1 + pn) x2 (by omega) (by omega) W)
      have P3 := Lib.hid (fun W => picked_any x.g 10 x3 (by decide) (by decide) W)
      have SN := Lib.hid (madeE_snoc (n := 1 + pn) hx)
      clear hx hc x1 x2 x3
      have HR := Lib.hid hr; have HG := Lib.hid hg
      go_wp2_with fail
      refine wp_region_z (fun w' => w'.cell? ⟨w.heap.size + 1, 0, none⟩ = some (.int .i64 (1 + pn)) ∧ w'.cell? ⟨w.heap.size + 1, 1, none⟩ = some v ∧ w'.cell? ⟨b, o + k * 3, none⟩ = some (.int .i64 x.f) ∧ w'.cell? ⟨b, o + k * 3 + 1, none⟩ = some (.int .i64 x.t) ∧ w'.cell? ⟨b, o + k * 3 + 2, none⟩ = some (.int .i64 x.g)) 28 (by kernel_rfl) ?_
      change wpAnyZ _ _ _ _ _ _ _ _ _ wr.drew
      obtain ⟨Wd, hWd⟩ : ∃ Wd, Wd = wr.drew := ⟨_, rfl⟩
      rw [← hWd]
      have hS0 : (fun w' => w'.cell? ⟨w.heap.size + 1, 0, none⟩ = some (.int .i64 (1 + pn)) ∧ w'.cell? ⟨w.heap.size + 1, 1, none⟩ = some v ∧ w'.cell? ⟨b, o + k * 3, none⟩ = some (.int .i64 x.f) ∧ w'.cell? ⟨b, o + k * 3 + 1, none⟩ = some (.int .i64 x.t) ∧ w'.cell? ⟨b, o + k * 3 + 2, none⟩ = some (.int .i64 x.g)) Wd := by rw [hWd]; exact ⟨cg0, cg1, hc0, hc1, hc2⟩
      have HD : Hid (Below wr.heap.size wr Wd ∧ Wd.heap.size = wr.heap.size) := by rw [hWd]; exact ⟨(Below.refl _ _).drew, rfl⟩
      clear hWd
      refine wpAnyZ_take (i := 0) (v := ?_) rfl (by kernel_rfl) (by kernel_rfl) (by kernel_rfl) (by kernel_rfl) (fun _ _ _ h => h) (Or.inl ⟨by rfl, ?_⟩) (by assumption) ?_
      rotate_left
      · intro w hSw; (try dsimp only at hSw); obtain ⟨s0, s1, s2, s3, s4⟩ := hSw; go_simp; (try with_reducible rfl)
      refine wpAnyZ_take (i := 1) (v := ?_) rfl (by kernel_rfl) (by kernel_rfl) (by kernel_rfl) (by kernel_rfl) (fun _ _ _ h => h) (Or.inl ⟨by rfl, ?_⟩) (by assumption) ?_
      rotate_left
      · intro w hSw; (try dsimp only at hSw); obtain ⟨s0, s1, s2, s3, s4⟩ := hSw; go_simp; (try with_reducible rfl)
      refine wpAnyZ_take (i := 2) (v := ?_) rfl (by kernel_rfl) (by kernel_rfl) (by kernel_rfl) (by kernel_rfl) (fun _ _ _ h => h) (Or.inl ⟨by rfl, ?_⟩) (by assumption) ?_
      rotate_left
      · intro w hSw; (try dsimp only at hSw); obtain ⟨s0, s1, s2, s3, s4⟩ := hSw; go_simp; (try with_reducible rfl)
      refine wpAnyZ_take (i := 3) (v := ?_) rfl (by kernel_rfl) (by kernel_rfl) (by kernel_rfl) (by kernel_rfl) (fun _ _ _ h => h) (Or.inl ⟨by rfl, ?_⟩) (by assumption) ?_
      rotate_left
      · intro w hSw; (try dsimp only at hSw); obtain ⟨s0, s1, s2, s3, s4⟩ := hSw; go_simp; (try with_reducible rfl)
      refine wpAnyZ_take (i := 4) (v := ?_) rfl (by kernel_rfl) (by kernel_rfl) (by kernel_rfl) (by kernel_rfl) (fun _ _ _ h => h) (Or.inl ⟨by rfl, ?_⟩) (by assumption) ?_
      rotate_left
      · intro w hSw; (try dsimp only at hSw); obtain ⟨s0, s1, s2, s3, s4⟩ := hSw; go_simp; (try with_reducible rfl)
      refine wpAnyZ_take (i := 5) (v := ?_) rfl (by kernel_rfl) (by kernel_rfl) (by kernel_rfl) (by kernel_rfl) (fun _ _ _ h => h) (Or.inl ⟨by rfl, ?_⟩) (by assumption) ?_
      rotate_left
      · intro w hSw; (try dsimp only at hSw); obtain ⟨s0, s1, s2, s3, s4⟩ := hSw; go_simp; (try with_reducible rfl)
      refine wpAnyZ_take (i := 6) (v := ?_) rfl (by kernel_rfl) (by kernel_rfl) (by kernel_rfl) (by kernel_rfl) (fun _ _ _ h => h) (Or.inl ⟨by rfl, ?_⟩) (by assumption) ?_
      rotate_left
      · intro w hSw; (try dsimp only at hSw); obtain ⟨s0, s1, s2, s3, s4⟩ := hSw; go_simp; (try with_reducible rfl)
      refine wpAnyZ_take (i := 7) (v := ?_) rfl (by kernel_rfl) (by kernel_rfl) (by kernel_rfl) (by kernel_rfl) (fun _ _ _ h => h) (Or.inl ⟨by rfl, ?_⟩) (by assumption) ?_
      rotate_left
      · intro w hSw; (try dsimp only at hSw); obtain ⟨s0, s1, s2, s3, s4⟩ := hSw; go_simp; (try with_reducible rfl)
      refine wpAnyZ_take (i := 8) (v := ?_) rfl (by kernel_rfl) (by kernel_rfl) (by kernel_rfl) (by kernel_rfl) (fun _ _ _ h => h) (Or.inl ⟨by rfl, ?_⟩) (by assumption) ?_
      rotate_left
      · intro w hSw; (try dsimp only at hSw); obtain ⟨s0, s1, s2, s3, s4⟩ := hSw; go_simp; (try with_reducible rfl)
      refine wpAnyZ_take (i := 10) (v := ?_) rfl (by kernel_rfl) (by kernel_rfl) (by kernel_rfl) (by kernel_rfl) (fun _ _ _ h => h) (Or.inl ⟨by rfl, ?_⟩) (by assumption) ?_
      rotate_left
      · intro w hSw; (try dsimp only at hSw); obtain ⟨s0, s1, s2, s3, s4⟩ := hSw; go_simp; (try with_reducible rfl)
      refine wpAnyZ_take (i := 11) (v := ?_) rfl (by kernel_rfl) (by kernel_rfl) (by kernel_rfl) (by kernel_rfl) (fun _ _ _ h => h) (Or.inl ⟨by rfl, ?_⟩) (by assumption) ?_
      rotate_left
      · intro w hSw; (try dsimp only at hSw); obtain ⟨s0, s1, s2, s3, s4⟩ := hSw; go_simp; (try with_reducible rfl)
      refine wpAnyZ_take (i := 12) (v := ?_) rfl (by kernel_rfl) (by kernel_rfl) (by kernel_rfl) (by kernel_rfl) (fun _ _ _ h => h) (Or.inl ⟨by rfl, ?_⟩) (by assumption) ?_
      rotate_left
      · intro w hSw; (try dsimp only at hSw); obtain ⟨s0, s1, s2, s3, s4⟩ := hSw; go_simp; (try with_reducible rfl)
      refine wpAnyZ_take (i := 13) (v := ?_) rfl (by kernel_rfl) (by kernel_rfl) (by kernel_rfl) (by kernel_rfl) (fun _ _ _ h => h) (Or.inl ⟨by rfl, ?_⟩) (by assumption) ?_
      rotate_left
      · intro w hSw; (try dsimp only at hSw); obtain ⟨s0, s1, s2, s3, s4⟩ := hSw; go_simp; (try with_reducible rfl)
      refine wpAnyZ_take (i := 14) (v := ?_) rfl (by kernel_rfl) (by kernel_rfl) (by kernel_rfl) (by kernel_rfl) (fun _ _ _ h => h) (Or.inl ⟨by rfl, ?_⟩) (by assumption) ?_
      rotate_left
      · intro w hSw; (try dsimp only at hSw); obtain ⟨s0, s1, s2, s3, s4⟩ := hSw; go_simp; (try with_reducible rfl)
      refine wpAnyZ_take (i := 15) (v := ?_) rfl (by kernel_rfl) (by kernel_rfl) (by kernel_rfl) (by kernel_rfl) (fun _ _ _ h => h) (Or.inl ⟨by rfl, ?_⟩) (by assumption) ?_
      rotate_left
      · intro w hSw; (try dsimp only at hSw); obtain ⟨s0, s1, s2, s3, s4⟩ := hSw; go_simp; (try with_reducible rfl)
      refine wpAnyZ_take (i := 16) (v := ?_) rfl (by kernel_rfl) (by kernel_rfl) (by kernel_rfl) (by kernel_rfl) (fun _ _ _ h => h) (Or.inl ⟨by rfl, ?_⟩) (by assumption) ?_
      rotate_left
      · intro w hSw; (try dsimp only at hSw); obtain ⟨s0, s1, s2, s3, s4⟩ := hSw; go_simp; (try with_reducible rfl)
      refine wpAnyZ_take (i := 18) (v := ?_) rfl (by kernel_rfl) (by kernel_rfl) (by kernel_rfl) (by kernel_rfl) (fun _ _ _ h => h) (Or.inl ⟨by rfl, ?_⟩) (by assumption) ?_
      rotate_left
      · intro w hSw; (try dsimp only at hSw); obtain ⟨s0, s1, s2, s3, s4⟩ := hSw; go_simp; (try with_reducible rfl)
      refine wpAnyZ_take (i := 19) (v := ?_) rfl (by kernel_rfl) (by kernel_rfl) (by kernel_rfl) (by kernel_rfl) (fun _ _ _ h => h) (Or.inl ⟨by rfl, ?_⟩) (by assumption) ?_
      rotate_left
      · intro w hSw; (try dsimp only at hSw); obtain ⟨s0, s1, s2, s3, s4⟩ := hSw; go_simp; (try with_reducible rfl)
      refine wpAnyZ_take (i := 20) (v := ?_) rfl (by kernel_rfl) (by kernel_rfl) (by kernel_rfl) (by kernel_rfl) (fun _ _ _ h => h) (Or.inl ⟨by rfl, ?_⟩) (by assumption) ?_
      rotate_left
      · intro w hSw; (try dsimp only at hSw); obtain ⟨s0, s1, s2, s3, s4⟩ := hSw; go_simp; (try with_reducible rfl)
      refine wpAnyZ_take (i := 21) (v := ?_) rfl (by kernel_rfl) (by kernel_rfl) (by kernel_rfl) (by kernel_rfl) (fun _ _ _ h => h) (Or.inl ⟨by rfl, ?_⟩) (by assumption) ?_
      rotate_left
      · intro w hSw; (try dsimp only at hSw); obtain ⟨s0, s1, s2, s3, s4⟩ := hSw; go_simp; (try with_reducible rfl)
      refine wpAnyZ_take (i := 22) (v := ?_) rfl (by kernel_rfl) (by kernel_rfl) (by kernel_rfl) (by kernel_rfl) (fun _ _ _ h => h) (Or.inl ⟨by rfl, ?_⟩) (by assumption) ?_
      rotate_left
      · intro w hSw; (try dsimp only at hSw); obtain ⟨s0, s1, s2, s3, s4⟩ := hSw; go_simp; (try with_reducible rfl)
      refine wpAnyZ_one (i := 9) (by kernel_rfl) rfl (fun K hK => ?_)
      go_simp
      refine (P1.out _).mono ?_
      rintro e w1 ⟨rfl, rfl⟩
      refine hK.out _ _ hS0 (fun hHeld => ?_)
      clear hK K hHeld
      refine wpAnyZ_one (i := 17) (by kernel_rfl) rfl (fun K hK => ?_)
      go_simp
      refine (P2.out _).mono ?_
      rintro e w1 ⟨rfl, rfl⟩
      refine hK.out _ _ hS0 (fun hHeld => ?_)
      clear hK K hHeld
      refine wpAnyZ_one (i := 23) (by kernel_rfl) rfl (fun K hK => ?_)
      go_simp
      refine (P3.out _).mono ?_
      rintro e w1 ⟨rfl, rfl⟩
      refine hK.out _ _ hS0 (fun hHeld => ?_)
      clear hK K hHeld
      refine wpAnyZ_take (i := 24) (v := ?_) rfl (by kernel_rfl) (by kernel_rfl) (by kernel_rfl) (by kernel_rfl) (fun _ _ _ h => h) (Or.inl ⟨by rfl, ?_⟩) (by assumption) ?_
      rotate_left
      · intro w hSw; (try dsimp only at hSw); obtain ⟨s0, s1, s2, s3, s4⟩ := hSw; go_simp; (try with_reducible rfl)
      refine wpAnyZ_one (i := 25) (by kernel_rfl) rfl (fun K hK => ?_)
      go_simp
      refine hK.out _ _ ⟨cell_later hS0.1, cell_later hS0.2.1, cell_later hS0.2.2.1, cell_later hS0.2.2.2.1, cell_later hS0.2.2.2.2⟩ (fun hHeld => ?_)
      clear hK K
      refine wpAnyZ_one (i := 26) (by kernel_rfl) rfl (fun K hK => ?_)
      refine step_append_own rfl (.tmp 25) (.tmp 49) 23 rfl (w.heap.size + 2) 46 i0 (.agg #[.int .i64 0, .int .i64 0, .int .i64 0]) 3 24 Try.underlying23 hi0 hz0 hz1 hz2 rfl (by decide) v k ((madeE (1 + pn) ws k).flatMap encE) rfl (own_old (own_old hown HD.out.1) (Below.of_alloc _ _))
        ⟨Wd.heap.size, 0, none⟩ 1 1 (encE (wyE (1 + pn) x)) rfl rfl ?_ ?_ ?_ ?_ ?_ ?_
      · intro j u hj
        have := (Bk.new Wd 46 #[.int .i64 (pickG x.f (1 + pn)), .int .i64 (pickG x.t (1 + pn)), .int .i64 (pickG x.g 10)]).cell j
        rw [show (⟨Wd.heap.size, 0, none⟩ : Addr).add j = ⟨Wd.heap.size, j, none⟩ by unfold Addr.add; split <;> simp_all, this]
        simpa [encE, wyE] using hj
      · intro u hu
        simp [encE] at hu
        rcases hu with rfl | rfl | rfl <;> rfl
      · unfold maxLen; omega
      · omega
      · have h1 := HD.out.2; have h2 := HG.out.lt; rw [World.size_alloc, h1]; omega
      intro v2 W2 hown2 hgrow hat
      have hvb : ∀ g, v.ownBlock = some g → w.heap.size + 2 ≤ g := fun g e => (hown.lt g e).1
      have hne : ∀ g, g < w.heap.size + 2 → some g ≠ v.ownBlock := fun g hg e => by have := hvb g e.symm; omega
      have hgW := (HG.out.old HD.out.1).alloc (.cells #[.int .i64 (pickG x.f (1 + pn)), .int .i64 (pickG x.t (1 + pn)), .int .i64 (pickG x.g 10)] 46)
      have hrW := (HR.out.old HD.out.1).alloc (.cells #[.int .i64 (pickG x.f (1 + pn)), .int .i64 (pickG x.t (1 + pn)), .int .i64 (pickG x.g 10)] 46)
      have hg2 : Bk W2 (w.heap.size + 1) 25 #[.int .i64 (1 + pn), v] := hgW.grown hgrow (hne _ (by omega))
      have hr2 : Bk W2 w.heap.size 25 #[.int .i64 0, .slice none 0 0] := hrW.grown hgrow (hne _ (by omega))
      have hbb2 : some b ≠ v.ownBlock := hne b (by omega)
      have hb2 : Below w.heap.size w W2 := by
        have h1 := hbel.trans (HD.out.1.mono hB)
        exact (h1.alloc h1.size _).grown hgrow (by have := h1.size; simp; omega) (fun g e => by have := hvb g e; omega)
      have cg1' := hg2.cell 1
      have fg1' := hg2.froz 1
      simp only [List.getElem?_toArray] at cg1'
      refine hK.out _ _ ⟨hg2.cell 0, hg2.cell 1, hgrow.cell (cell_later hS0.2.2.1) hbb2, hgrow.cell (cell_later hS0.2.2.2.1) hbb2, hgrow.cell (cell_later hS0.2.2.2.2) hbb2⟩ (fun hHeld2 => ?_)
      clear hK K
      have hS2 := hHeld2
      have hv2 : ∃ A2 c2, v2 = .slice A2 (k + 1) c2 := by
        rcases hown2.2 with ⟨rfl, h0⟩ | ⟨_, _, _, rfl, _⟩
        · omega
        · exact ⟨_, _, rfl⟩
      obtain ⟨A2, c2, rfl⟩ := hv2
      have F1 : Hid (W2.ownsRow (w.heap.size + 2) 46 3 (.slice A2 (k + 1) c2) (k + 1) ((madeE (1 + pn) ws (k + 1)).flatMap encE)) := by
        unfold Hid; rw [SN.out, List.flatMap_append, List.flatMap_cons, List.flatMap_nil, List.append_nil]; exact hown2
      have F2 := Lib.hid (own_set F1.out (show w.heap.size + 1 < w.heap.size + 2 by omega) 1 (.slice A2 (k + 1) c2))
      have HB2 := Lib.hid (hb2.setCell (p := ⟨w.heap.size + 1, 1, none⟩) (by simp) (.slice A2 (k + 1) c2))
      have HG2 := Lib.hid (hg2.set 1 (.slice A2 (k + 1) c2))
      have HR2 := Lib.hid (hr2.far (p := ⟨w.heap.size + 1, 1, none⟩) (by simp) (.slice A2 (k + 1) c2))
      clear hown2 hgrow hat hown hgW hrW hg2 hr2 hb2 hvb hne hS0
      refine wpAnyZ_take (i := 27) (v := ?_) rfl (by kernel_rfl) (by kernel_rfl) (by kernel_rfl) (by kernel_rfl) (fun _ _ _ h => h) (Or.inl ⟨by rfl, ?_⟩) (by assumption) ?_
      rotate_left
      · intro w hSw; (try dsimp only at hSw); obtain ⟨s0, s1, s2, s3, s4⟩ := hSw; go_simp; (try with_reducible rfl)
      refine wpAnyZ_last (by kernel_rfl) rfl (fun K hK => ?_)
      go_simp
      refine hK.out _ _ ?_
      refine wpAnyZ_done (by kernel_rfl) ?_ _
      go_wp2
      go_roundw
      case rel => exact ⟨k + 1, _, by omega, by omega, by go_num, HR2.out, HG2.out, F2.out, HB2.out⟩
      case measure => simp [intOf]; omega
    · have hm : min len 10 = k := by omega
      have HO := Lib.hid hown
      have SLW := Lib.hid (Sl.of_own (enc := encE) (fun _ => rfl) (show wr.ownsRow (w.heap.size + 2) 46 3 v (madeE (1 + pn) ws k).length ((madeE (1 + pn) ws k).flatMap encE) by rw [madeE_len (by rw [HL.out]; exact hk)]; exact hown))
      have hv5 : ∃ A5 c5, v = .slice A5 k c5 := by
        obtain ⟨A5, c5, e, _⟩ := SLW.out
        rw [madeE_len (by rw [HL.out]; exact hk)] at e
        exact ⟨A5, c5, e⟩
      obtain ⟨A5, c5, rfl⟩ := hv5
      have cr0 := hr.cell 0
      have cr1 := hr.cell 1
      have fr0 := hr.froz 0
      have fr1 := hr.froz 1
      simp only [List.getElem?_toArray] at cr0 cr1
      have HR := Lib.hid hr; have HMN := Lib.hid hm
      clear hown hm hr
      go_wp2
      all_goals
        have RB := (HR.out.set 0 (.int .i64 (1 + pn))).set 1 (.slice A5 k c5)
        have d0 := (RB.cell 0).trans (show _ = some (Value.int .i64 (1 + pn)) from rfl)
        have d1 := (RB.cell 1).trans (show _ = some (Value.slice A5 k c5) from rfl)
        refine bodyPost_ret (v := .agg #[.int .i64 (1 + pn), .slice A5 k c5]) ?_ rfl ⟨_, rfl, ?_, (hbel.setCell (p := ⟨w.heap.size, 0, none⟩) (by simp) _).setCell (p := ⟨w.heap.size, 1, none⟩) (by simp) _, fun g e => by have := (HO.out.lt g e).1; omega⟩
        · simp [results, Try.f19, go_sem, d0, d1]
        · rw [HMN.out]
          refine Sl.of_own (base := w.heap.size + 2) (e := 46) (fun _ => rfl) ?_
          rw [madeE_len (by rw [HL.out]; exact hk)]
          exact own_set (own_set HO.out (by omega) 0 _) (by omega) 1 _
end Go.Proofs.Ytbholafggbdieaa
