/- rounds.Answer of a state that is done. -/
import Derived.Test.YtbholafggbdieaaRun
namespace Go.Proofs.Ytbholafggbdieaa
open Go.RowKit

def ansV (j : Jb) (x : Vl) : Int := if j.kind = 3 then x.l else x.a
def ansG (j : Jb) (s : Stt) : List Int := s.vals.map (ansV j)
def AnsR (l : List Int) (w : World) (e : Ending) (w' : World) : Prop := ∃ v, e = .returned (.tuple #[v, .int .i64 0]) ∧ w'.ownsRow w.heap.size 3 1 v l.length (l.map (.int .i64)) ∧ Below w.heap.size w w'
theorem map_take_snoc {α β : Type} (f : α → β) {l : List α} {k : Nat} {x : α} (h : l[k]? = some x) : (l.take (k + 1)).map f = (l.take k).map f ++ [f x] := by
  rw [List.take_add_one, h]; simp

set_option maxRecDepth 10000 in
set_option maxHeartbeats 1000000 in
theorem answer_any (j : Jb) (hj : GoodJ j) (s : Stt) (hs : GoodS j s) (hd : s.done = true) (ev vv mv : Value) (w : World) (he : Sl 3 encE w w.heap.size ev j.es) (hr : StR w s vv mv) :
    Calls Try.prog 34 #[.agg #[.int .i64 j.n, ev, .int .i64 j.kind, .int .i64 j.src], .agg #[.int .i64 s.step, .int .i64 s.phase, .bool s.fresh, .bool s.done, vv, mv]] w (AnsR (ansG j s) w) := by
  have CK := Lib.hid (fun W (hb : Below w.heap.size w W) => rcheck_any j hj ev W (he.old hb))
  have MY := Lib.hid (fun W (hb : Below w.heap.size w W) => may_any j s hj hs ev vv mv W (hr.old hb))
  have h1 := hj.top; have h2 := hs.vlen
  obtain ⟨A, c, rfl, hac, hcm, hA⟩ := hr.vals
  unfold maxLen at hcm
  have hlen2 : s.vals.length ≤ 200 := by omega
  have HA := Lib.hid hA
  rw [hd] at MY ⊢
  clear hj hs he hr h1 h2 hA
  generalize hlen : s.vals.length = len at *
  have HL := Lib.hid hlen; clear hlen
  obtain ⟨i0, hi0, hz0, hz1, hz2⟩ := info_parts infoMail
  generalize hvv : Value.slice A len c = bv at CK MY ⊢
  have HVV := Lib.hid hvv; clear hvv
  go_enter Try.func34, Try.ntmps34
  go_wp2_with fail
  refine (CK.out _ (below_two _ _ _)).mono ?_
  rintro e w1 ⟨rfl, hb1⟩
  have jb := ((Bk.new w 27 #[.int .i64 j.n, ev, .int .i64 j.kind, .int .i64 j.src]).alloc (.cells #[.int .i64 s.step, .int .i64 s.phase, .bool s.fresh, .bool true, bv, mv] 32)).old hb1
  have sb := (cellr w (.cells #[.int .i64 j.n, ev, .int .i64 j.kind, .int .i64 j.src] 27) #[.int .i64 s.step, .int .i64 s.phase, .bool s.fresh, .bool true, bv, mv] 32).old hb1
  have HB := Lib.hid ((below_two w (.cells #[.int .i64 j.n, ev, .int .i64 j.kind, .int .i64 j.src] 27) (.cells #[.int .i64 s.step, .int .i64 s.phase, .bool s.fresh, .bool true, bv, mv] 32)).trans (hb1.mono (by simp; omega)))
  have j0 : w1.cell? ⟨w.heap.size, 0, none⟩ = some (.int .i64 j.n) := jb.cell 0
  have j1 : w1.cell? ⟨w.heap.size, 1, none⟩ = some ev := jb.cell 1
  have j2 : w1.cell? ⟨w.heap.size, 2, none⟩ = some (.int .i64 j.kind) := jb.cell 2
  have j3 : w1.cell? ⟨w.heap.size, 3, none⟩ = some (.int .i64 j.src) := jb.cell 3
  have s0 : w1.cell? ⟨w.heap.size + 1, 0, none⟩ = some (.int .i64 s.step) := sb.cell 0
  have s1 : w1.cell? ⟨w.heap.size + 1, 1, none⟩ = some (.int .i64 s.phase) := sb.cell 1
  have s2 : w1.cell? ⟨w.heap.size + 1, 2, none⟩ = some (.bool s.fresh) := sb.cell 2
  have s3 : w1.cell? ⟨w.heap.size + 1, 3, none⟩ = some (.bool true) := sb.cell 3
  have s4 : w1.cell? ⟨w.heap.size + 1, 4, none⟩ = some bv := sb.cell 4
  have s5 : w1.cell? ⟨w.heap.size + 1, 5, none⟩ = some mv := sb.cell 5
  have JB := Lib.hid jb; have SB := Lib.hid sb
  clear hb1 jb sb
  go_wp2_with fail
  refine (MY.out _ HB.out).mono ?_
  rintro e w2 ⟨rfl, hb2⟩
  have HB2 := Lib.hid (HB.out.trans (hb2.mono HB.out.size))
  have sb := SB.out.old hb2
  have u3 : w2.cell? ⟨w.heap.size + 1, 3, none⟩ = some (.bool true) := sb.cell 3
  have u4 : w2.cell? ⟨w.heap.size + 1, 4, none⟩ = some bv := sb.cell 4
  rw [← HVV.out] at u4
  have JB2 := Lib.hid (JB.out.old hb2)
  have hlt2 : w.heap.size < w2.heap.size := JB2.out.lt
  clear hb2 sb j0 j1 j2 j3 s0 s1 s2 s3 s4 s5
  go_wp2_with fail
  have HSZ : Hid (w.heap.size ≤ w2.heap.size) := HB2.out.size
  go_loopw [7, 25] (fun v i wr => ∃ k : Nat, k ≤ len ∧ i = .int .i64 k ∧ wr.ownsRow w2.heap.size 3 1 v k (((s.vals.take k).map (ansV j)).map (.int .i64)) ∧ Below w2.heap.size w2 wr) (fun _ i _ => len - (intOf i).toNat)
  case atStart => exact ⟨0, Nat.zero_le _, rfl, World.ownsRow_nil _ _ _ _, Below.refl _ _⟩
  case round =>
    obtain ⟨k, hk, rfl, hown, hbel⟩ := hrel
    have hB := hbel.size
    by_cases hlt : k < len
    · obtain ⟨b, o, rfl, hbb, hc⟩ := HA.out (by omega)
      obtain ⟨x, hx⟩ : ∃ x, s.vals[k]? = some x := ⟨_, List.getElem?_eq_getElem (by rw [HL.out]; exact hlt)⟩
      have bw := HB2.out.trans (hbel.mono HB2.out.size)
      have a0 := (bw.cell (p := ⟨b, o + k * 2, none⟩) hbb).trans (hc k x hx 0 _ rfl)
      have a1 := (bw.cell (p := ⟨b, o + k * 2 + 1, none⟩) hbb).trans (hc k x hx 1 _ rfl)
      have jk : wr.cell? ⟨w.heap.size, 2, none⟩ = some (.int .i64 j.kind) := (JB2.out.old hbel).cell 2
      have SN := Lib.hid (map_take_snoc (ansV j) hx)
      have AV : Hid (ansV j x = if j.kind = 3 then x.l else x.a) := rfl
      clear hx hc bw
      obtain ⟨xa, xl⟩ := x
      simp only at a0 a1 AV
      have HOWN := Lib.hid hown; have HBEL := Lib.hid hbel
      have jlt : w.heap.size < wr.heap.size := by omega
      clear hown hbel
      by_cases h3 : j.kind = 3
      · have t3 : (j.kind == 3) = true := by simp [h3]
        have AV2 : Hid (ansV j ⟨xa, xl⟩ = xl) := by unfold Hid; rw [AV.out, if_pos h3]
        clear h3
        have OW2 := own_old HOWN.out (below_two wr (.cells #[.int .i64 xa, .int .i64 xl] 40) (.cells #[.int .i64 xl] 3))
        go_wp2_with (at_builtin; go_loud (refine wpList_append_own _ rfl _ _ 38 rfl w2.heap.size 3 i0 (.int .i64 0) 1 8 Try.underlying38 hi0 hz0 hz1 hz2 rfl (by decide) u7 k _ rfl OW2 ⟨wr.heap.size + 1, 0, none⟩ 1 1 [.int .i64 xl] rfl rfl ?_ ?_ ?_ ?_ ?_ ?_))
        · intro j' u hj'
          have := (cellr wr (.cells #[.int .i64 xa, .int .i64 xl] 40) #[.int .i64 xl] 3).cell j'
          rw [show (⟨wr.heap.size + 1, 0, none⟩ : Addr).add j' = ⟨wr.heap.size + 1, j', none⟩ by unfold Addr.add; split <;> simp_all, this]
          simpa using hj'
        · simp [Value.oneCell']
        · unfold maxLen; omega
        · omega
        · rw [World.size_alloc, World.size_alloc]; omega
        intro v2 W2 hown2 hgrow hat
        have hvb : ∀ g, u7.ownBlock = some g → w2.heap.size ≤ g := fun g e => (HOWN.out.lt g e).1
        have F1 : Hid (W2.ownsRow w2.heap.size 3 1 v2 (k + 1) (((s.vals.take (k + 1)).map (ansV j)).map (.int .i64))) := by
          unfold Hid; rw [SN.out, AV2.out, List.map_append]; simpa using hown2
        have HB3 : Hid (Below w2.heap.size w2 W2) := ((HBEL.out.alloc hB (.cells #[.int .i64 xa, .int .i64 xl] 40)).alloc (by rw [World.size_alloc]; omega) (.cells #[.int .i64 xl] 3)).grown hgrow (by rw [World.size_alloc, World.size_alloc]; omega) (fun g e => hvb g e)
        clear hown2 hgrow hat hvb
        go_wp2
        go_roundw
        case rel => exact ⟨k + 1, by omega, by go_num, F1.out, HB3.out⟩
        case measure => simp [intOf]; omega
      · have t3 : (j.kind == 3) = false := by simpa using h3
        have AV2 : Hid (ansV j ⟨xa, xl⟩ = xa) := by unfold Hid; rw [AV.out, if_neg h3]
        clear h3
        have OW2 := own_old HOWN.out (below_two wr (.cells #[.int .i64 xa, .int .i64 xl] 40) (.cells #[.int .i64 xa] 3))
        go_wp2_with (at_builtin; go_loud (refine wpList_append_own _ rfl _ _ 38 rfl w2.heap.size 3 i0 (.int .i64 0) 1 8 Try.underlying38 hi0 hz0 hz1 hz2 rfl (by decide) u7 k _ rfl OW2 ⟨wr.heap.size + 1, 0, none⟩ 1 1 [.int .i64 xa] rfl rfl ?_ ?_ ?_ ?_ ?_ ?_))
        · intro j' u hj'
          have := (cellr wr (.cells #[.int .i64 xa, .int .i64 xl] 40) #[.int .i64 xa] 3).cell j'
          rw [show (⟨wr.heap.size + 1, 0, none⟩ : Addr).add j' = ⟨wr.heap.size + 1, j', none⟩ by unfold Addr.add; split <;> simp_all, this]
          simpa using hj'
        · simp [Value.oneCell']
        · unfold maxLen; omega
        · omega
        · rw [World.size_alloc, World.size_alloc]; omega
        intro v2 W2 hown2 hgrow hat
        have hvb : ∀ g, u7.ownBlock = some g → w2.heap.size ≤ g := fun g e => (HOWN.out.lt g e).1
        have F1 : Hid (W2.ownsRow w2.heap.size 3 1 v2 (k + 1) (((s.vals.take (k + 1)).map (ansV j)).map (.int .i64))) := by
          unfold Hid; rw [SN.out, AV2.out, List.map_append]; simpa using hown2
        have HB3 : Hid (Below w2.heap.size w2 W2) := ((HBEL.out.alloc hB (.cells #[.int .i64 xa, .int .i64 xl] 40)).alloc (by rw [World.size_alloc]; omega) (.cells #[.int .i64 xa] 3)).grown hgrow (by rw [World.size_alloc, World.size_alloc]; omega) (fun g e => hvb g e)
        clear hown2 hgrow hat hvb
        go_wp2
        go_roundw
        case rel => exact ⟨k + 1, by omega, by go_num, F1.out, HB3.out⟩
        case measure => simp [intOf]; omega
    · obtain rfl : k = len := by omega
      rw [List.take_of_length_le (by rw [HL.out]; exact Nat.le_refl _)] at hown
      have HOWN := Lib.hid hown; have HBEL := Lib.hid hbel
      clear hown hbel
      go_wp2
      go_ret2
      exact ⟨_, rfl, by unfold ansG; rw [List.length_map, HL.out]; exact own_less HOWN.out HSZ.out, HB2.out.trans (HBEL.out.mono HB2.out.size)⟩
end Go.Proofs.Ytbholafggbdieaa
