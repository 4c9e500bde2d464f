/- prog: what a vertex does. -/
import Derived.Test.YtbholafggbdieaaPick
import Derived.Test.YtbholafggbdieaaRoundDefs
import Derived.Deep.QuietTactic
import Derived.BigQuiet
import Derived.OwnWalk
namespace Go.Proofs.Ytbholafggbdieaa
open Go.RowKit

theorem top_any (kind : Int) (w : World) :
    Calls Try.prog 33 #[.int .i64 kind] w fun e w' => e = .returned (.int .i64 (topG kind)) ∧ w = w' := by
  by_cases h : kind = 1
  · subst h
    go_enter Try.func33, Try.ntmps33
    go_wp2
    go_ret
    exact ⟨rfl, rfl⟩
  · have hb : (kind == 1) = false := by simpa using h
    have e : Hid (topG kind = 199) := by unfold Hid topG; rw [if_neg h]
    go_enter Try.func33, Try.ntmps33
    go_wp2
    go_ret
    exact ⟨by rw [e.out]; rfl, rfl⟩

theorem phases_yes (kind phase : Int) (h : phase = 0 ∨ (phase = 1 ∧ kind = 3)) (w : World) :
    Calls Try.prog 31 #[.int .i64 kind, .int .i64 phase] w fun e w' => e = .returned (.bool true) ∧ w = w' := by
  rcases h with rfl | ⟨rfl, rfl⟩
  all_goals
    go_enter Try.func31, Try.ntmps31
    go_wp2
    go_ret
    exact ⟨rfl, rfl⟩

/-- The types of the three jobs. -/
def jobT (kind : Int) : Nat := if kind = 1 then 109 else if kind = 2 then 110 else 112
theorem jobOf_yes (kind : Int) (h : kind = 1 ∨ kind = 2 ∨ kind = 3) (w : World) :
    Calls Try.prog 30 #[.int .i64 kind] w fun e w' => e = .returned (.iface (jobT kind) (.agg #[])) ∧ w = w' := by
  rcases h with rfl | rfl | rfl
  all_goals
    go_enter Try.func30, Try.ntmps30
    go_wp2
    go_ret
    exact ⟨rfl, rfl⟩

theorem val_parts {kind : Int} {x : Vl} (h : valB kind x = true) : -1 ≤ x.a ∧ x.a ≤ topG kind ∧ -1 ≤ x.l ∧ x.l < 200 := by
  unfold valB at h; simpa using h
theorem value_yes (kind : Int) (x : Vl) (h : valB kind x = true) (w : World) :
    Calls Try.prog 32 #[.int .i64 kind, .agg #[.int .i64 x.a, .int .i64 x.l]] w fun e w' => e = .returned (.bool true) ∧ Below w.heap.size w w' := by
  obtain ⟨h0, h1, h2, h3⟩ := val_parts h
  clear h
  obtain ⟨a, l⟩ := x
  simp only at h0 h1 h2 h3
  have T := Lib.hid (fun W => top_any kind W)
  generalize topG kind = t at *
  have d0 : decide (-1 ≤ a) = true := by simpa using h0
  have d1 : decide (a ≤ t) = true := by simpa using h1
  have d2 : decide (-1 ≤ l) = true := by simpa using h2
  have d3 : decide (l < 200) = true := by simpa using h3
  go_enter Try.func32, Try.ntmps32
  go_wp2_with fail
  go_quiet ((go_at_call 33; exact Calls.quiet_of_same ((T.out _).mono fun e w' ⟨h1, h2⟩ => ⟨h1, h2.symm⟩)))
  go_wp2
  go_ret
  exact ⟨rfl, below_drewN (Below.of_alloc _ _) nq⟩

theorem ways_1 (phase : Int) (w : World) : Calls Try.prog 114 #[.agg #[], .int .i64 phase] w fun e w' => e = .returned (.tuple #[.bool true, .bool false]) ∧ Below w.heap.size w w' := by
  go_enter Try.func114, Try.ntmps114
  go_wp2
  go_ret2
  exact ⟨rfl, Below.of_alloc _ _⟩
theorem ways_2 (phase : Int) (w : World) : Calls Try.prog 118 #[.agg #[], .int .i64 phase] w fun e w' => e = .returned (.tuple #[.bool true, .bool true]) ∧ Below w.heap.size w w' := by
  go_enter Try.func118, Try.ntmps118
  go_wp2
  go_ret2
  exact ⟨rfl, Below.of_alloc _ _⟩
theorem ways_3 (phase : Int) (w : World) : Calls Try.prog 120 #[.agg #[], .int .i64 phase] w fun e w' => e = .returned (.tuple #[.bool (outG 3 phase), .bool (inG 3 phase)]) ∧ Below w.heap.size w w' := by
  go_enter Try.func120, Try.ntmps120
  go_wp2
  go_ret2
  exact ⟨rfl, Below.of_alloc _ _⟩

theorem meth_ways_1 (w : World) : (method 274 109 (.agg #[]) "paceline/prog.ways").run Try.prog w = .ok (114, .agg #[]) w := by kernel_rfl
theorem meth_wake_1 (w : World) : (method 274 109 (.agg #[]) "paceline/prog.wake").run Try.prog w = .ok (113, .agg #[]) w := by kernel_rfl
theorem meth_say_1 (w : World) : (method 274 109 (.agg #[]) "paceline/prog.say").run Try.prog w = .ok (112, .agg #[]) w := by kernel_rfl
theorem meth_ways_2 (w : World) : (method 274 110 (.agg #[]) "paceline/prog.ways").run Try.prog w = .ok (118, .agg #[]) w := by kernel_rfl
theorem meth_wake_2 (w : World) : (method 274 110 (.agg #[]) "paceline/prog.wake").run Try.prog w = .ok (117, .agg #[]) w := by kernel_rfl
theorem meth_say_2 (w : World) : (method 274 110 (.agg #[]) "paceline/prog.say").run Try.prog w = .ok (116, .agg #[]) w := by kernel_rfl
theorem meth_ways_3 (w : World) : (method 274 112 (.agg #[]) "paceline/prog.ways").run Try.prog w = .ok (120, .agg #[]) w := by kernel_rfl
theorem meth_wake_3 (w : World) : (method 274 112 (.agg #[]) "paceline/prog.wake").run Try.prog w = .ok (119, .agg #[]) w := by kernel_rfl
theorem meth_say_3 (w : World) : (method 274 112 (.agg #[]) "paceline/prog.say").run Try.prog w = .ok (116, .agg #[]) w := by kernel_rfl

theorem ways_any (kind phase : Int) (hk : kind = 1 ∨ kind = 2 ∨ kind = 3) (hp : phase = 0 ∨ (phase = 1 ∧ kind = 3)) (w : World) :
    Calls Try.prog 14 #[.int .i64 kind, .int .i64 phase] w fun e w' => e = .returned (.tuple #[.bool (outG kind phase), .bool (inG kind phase), .int .i64 0]) ∧ Below w.heap.size w w' := by
  have J := Lib.hid (fun W => jobOf_yes kind hk W)
  have P := Lib.hid (fun W => phases_yes kind phase hp W)
  rcases hk with rfl | rfl | rfl
  · rw [show jobT 1 = 109 from rfl] at J
    have M := meth_ways_1
    go_enter Try.func14, Try.ntmps14
    go_wp2_with (first
      | (go_at_call 30; refine (J.out _).mono ?_; rintro e w1 ⟨rfl, rfl⟩)
      | (go_at_call 31; refine (P.out _).mono ?_; rintro e w1 ⟨rfl, rfl⟩)
      | (go_at_call 114; refine (ways_1 phase _).mono ?_; rintro e w1 ⟨rfl, hb⟩))
    go_ret3
    exact ⟨rfl, hb⟩
  · rw [show jobT 2 = 110 from rfl] at J
    have M := meth_ways_2
    go_enter Try.func14, Try.ntmps14
    go_wp2_with (first
      | (go_at_call 30; refine (J.out _).mono ?_; rintro e w1 ⟨rfl, rfl⟩)
      | (go_at_call 31; refine (P.out _).mono ?_; rintro e w1 ⟨rfl, rfl⟩)
      | (go_at_call 118; refine (ways_2 phase _).mono ?_; rintro e w1 ⟨rfl, hb⟩))
    go_ret3
    exact ⟨rfl, hb⟩
  · rw [show jobT 3 = 112 from rfl] at J
    have M := meth_ways_3
    go_enter Try.func14, Try.ntmps14
    go_wp2_with (first
      | (go_at_call 30; refine (J.out _).mono ?_; rintro e w1 ⟨rfl, rfl⟩)
      | (go_at_call 31; refine (P.out _).mono ?_; rintro e w1 ⟨rfl, rfl⟩)
      | (go_at_call 120; refine (ways_3 phase _).mono ?_; rintro e w1 ⟨rfl, hb⟩))
    go_ret3
    exact ⟨rfl, hb⟩

theorem say_1 (x : Vl) (phase wt : Int) (h : ¬ 4398046511104 - wt < x.a) (hx0 : -1 ≤ x.a) (hx1 : x.a ≤ 4398046511104) (hw0 : 0 ≤ wt) (hw1 : wt ≤ 1099511627776) (w : World) :
    Calls Try.prog 112 #[.agg #[], .agg #[.int .i64 x.a, .int .i64 x.l], .int .i64 phase, .int .i64 wt] w fun e w' => e = .returned (.tuple #[.int .i64 (x.a + wt), .int .i64 0]) ∧ Below w.heap.size w w' := by
  obtain ⟨a, l⟩ := x
  simp only at h hx0 hx1 ⊢
  have d : decide (4398046511104 - wt < a) = false := by simpa using h
  go_enter Try.func112, Try.ntmps112
  go_wp2
  go_ret2
  exact ⟨rfl, below_two _ _ _⟩
theorem say_2 (x : Vl) (phase wt : Int) (w : World) :
    Calls Try.prog 116 #[.agg #[], .agg #[.int .i64 x.a, .int .i64 x.l], .int .i64 phase, .int .i64 wt] w fun e w' => e = .returned (.tuple #[.int .i64 x.a, .int .i64 0]) ∧ Below w.heap.size w w' := by
  go_enter Try.func116, Try.ntmps116
  go_wp2
  go_ret2
  exact ⟨rfl, below_two _ _ _⟩

theorem say_any (kind phase wt : Int) (x : Vl) (hk : kind = 1 ∨ kind = 2 ∨ kind = 3) (hp : phase = 0 ∨ (phase = 1 ∧ kind = 3)) (hv : valB kind x = true) (hn : x.a ≠ -1) (hw0 : 0 ≤ wt) (hw1 : wt ≤ 1099511627776)
    (hs : kind = 1 → x.a + wt ≤ 4398046511104) (w : World) :
    Calls Try.prog 44 #[.int .i64 kind, .agg #[.int .i64 x.a, .int .i64 x.l], .int .i64 phase, .int .i64 wt] w fun e w' => e = .returned (.tuple #[.int .i64 (sayG kind x wt), .int .i64 0]) ∧ Below w.heap.size w w' := by
  have J := Lib.hid (fun W => jobOf_yes kind hk W)
  have P := Lib.hid (fun W => phases_yes kind phase hp W)
  have V := Lib.hid (fun W => value_yes kind x hv W)
  obtain ⟨v0, v1, v2, v3⟩ := val_parts hv
  have t1 : (x.a == -1) = false := by simpa using hn
  have t2 : decide (wt < 0) = false := by simp; omega
  have t3 : decide (1099511627776 < wt) = false := by simp; omega
  have S1 : Hid (kind = 1 → ∀ W, Calls Try.prog 112 #[.agg #[], .agg #[.int .i64 x.a, .int .i64 x.l], .int .i64 phase, .int .i64 wt] W fun e w' => e = .returned (.tuple #[.int .i64 (x.a + wt), .int .i64 0]) ∧ Below W.heap.size W w') :=
    Lib.hid fun h W => say_1 x phase wt (by have := hs h; omega) v0 (by subst h; exact v1) hw0 hw1 W
  have S2 := Lib.hid (fun W => say_2 x phase wt W)
  obtain ⟨a, l⟩ := x
  simp only at v0 v1 v2 v3 t1 ⊢
  clear hv hn hs
  rcases hk with rfl | rfl | rfl
  · rw [show jobT 1 = 109 from rfl] at J
    have M := meth_say_1
    go_enter Try.func44, Try.ntmps44
    go_wp2_with (first
      | (go_at_call 30; refine (J.out _).mono ?_; rintro e w1 ⟨rfl, rfl⟩)
      | (go_at_call 31; refine (P.out _).mono ?_; rintro e w1 ⟨rfl, rfl⟩)
      | (go_at_call 32; refine (V.out _).mono ?_; rintro e w2 ⟨rfl, hb2⟩; have bx := (Bk.new w 40 #[.int .i64 a, .int .i64 l]).old hb2; have c0 := bx.cell 0; have c1 := bx.cell 1; simp only [List.getElem?_toArray] at c0 c1; have HB2 := Lib.hid hb2; clear hb2 bx)
      | (go_at_call 112; refine (S1.out (by simp) _).mono ?_; rintro e w3 ⟨rfl, hb3⟩))
    go_ret2
    exact ⟨rfl, (Below.of_alloc _ _).trans ((HB2.out.trans (hb3.mono HB2.out.size)).mono (by simp))⟩
  · rw [show jobT 2 = 110 from rfl] at J
    have M := meth_say_2
    go_enter Try.func44, Try.ntmps44
    go_wp2_with (first
      | (go_at_call 30; refine (J.out _).mono ?_; rintro e w1 ⟨rfl, rfl⟩)
      | (go_at_call 31; refine (P.out _).mono ?_; rintro e w1 ⟨rfl, rfl⟩)
      | (go_at_call 32; refine (V.out _).mono ?_; rintro e w2 ⟨rfl, hb2⟩; have bx := (Bk.new w 40 #[.int .i64 a, .int .i64 l]).old hb2; have c0 := bx.cell 0; have c1 := bx.cell 1; simp only [List.getElem?_toArray] at c0 c1; have HB2 := Lib.hid hb2; clear hb2 bx)
      | (go_at_call 116; refine (S2.out _).mono ?_; rintro e w3 ⟨rfl, hb3⟩))
    go_ret2
    exact ⟨rfl, (Below.of_alloc _ _).trans ((HB2.out.trans (hb3.mono HB2.out.size)).mono (by simp))⟩
  · rw [show jobT 3 = 112 from rfl] at J
    have M := meth_say_3
    go_enter Try.func44, Try.ntmps44
    go_wp2_with (first
      | (go_at_call 30; refine (J.out _).mono ?_; rintro e w1 ⟨rfl, rfl⟩)
      | (go_at_call 31; refine (P.out _).mono ?_; rintro e w1 ⟨rfl, rfl⟩)
      | (go_at_call 32; refine (V.out _).mono ?_; rintro e w2 ⟨rfl, hb2⟩; have bx := (Bk.new w 40 #[.int .i64 a, .int .i64 l]).old hb2; have c0 := bx.cell 0; have c1 := bx.cell 1; simp only [List.getElem?_toArray] at c0 c1; have HB2 := Lib.hid hb2; clear hb2 bx)
      | (go_at_call 116; refine (S2.out _).mono ?_; rintro e w3 ⟨rfl, hb3⟩))
    go_ret2
    exact ⟨rfl, (Below.of_alloc _ _).trans ((HB2.out.trans (hb3.mono HB2.out.size)).mono (by simp))⟩

theorem lowG_take {old : Vl} {mail : List Int} {k : Nat} {m : Int} (h : mail[k]? = some m) : lowG old (mail.take (k + 1)) = lowS (lowG old (mail.take k)) m := by
  unfold lowG; rw [List.take_add_one, h]; simp
theorem lowS_l (p : Vl × Bool) (m : Int) : (lowS p m).1.l = p.1.l := by unfold lowS; split <;> rfl
theorem lowG_l (old : Vl) (mail : List Int) : (lowG old mail).1.l = old.l := by
  unfold lowG
  have : ∀ (mail : List Int) (p : Vl × Bool), (mail.foldl lowS p).1.l = p.1.l := by
    intro mail
    induction mail with
    | nil => intro p; rfl
    | cons m ms ih => intro p; rw [List.foldl_cons, ih, lowS_l]
  exact this mail _

set_option maxHeartbeats 1000000 in
theorem lower_any (old : Vl) (mail : List Int) (v : Value) (w : World) (hv : Sl 1 encN w w.heap.size v mail) (h0 : -9223372036854775808 ≤ old.a) (h1 : old.a ≤ 9223372036854775807) :
    Calls Try.prog 115 #[.agg #[.int .i64 old.a, .int .i64 old.l], v] w fun e w' => e = .returned (.tuple #[.agg #[.int .i64 (lowG old mail).1.a, .int .i64 (lowG old mail).1.l], .bool (lowG old mail).2]) ∧ Below w.heap.size w w' := by
  obtain ⟨A, c, rfl, hac, hcm, hA⟩ := hv
  unfold maxLen at hcm
  have HA := Lib.hid hA; clear hA
  rw [lowG_l]
  generalize hlen : mail.length = len at *
  have HL := Lib.hid hlen; clear hlen
  obtain ⟨a, l⟩ := old
  simp only at h0 h1 ⊢
  go_enter Try.func115, Try.ntmps115
  go_wp2
  go_loopw [6, 8, 11] (fun said _ i wr => ∃ k : Nat, k ≤ len ∧ i = .int .i64 k ∧ said = .bool (lowG ⟨a, l⟩ (mail.take k)).2 ∧ Bk wr w.heap.size 40 #[.int .i64 (lowG ⟨a, l⟩ (mail.take k)).1.a, .int .i64 l] ∧ Bk wr (w.heap.size + 1) 40 #[.int .i64 0, .int .i64 0] ∧ Below w.heap.size w wr) (fun _ _ i _ => len - (intOf i).toNat)
  case atStart =>
    refine ⟨0, Nat.zero_le _, rfl, rfl, (Bk.new _ _ _).alloc _, ?_, below_two _ _ _⟩
    have := Bk.new (w.alloc (.cells #[.int .i64 a, .int .i64 l] 40)) 40 #[.int .i64 0, .int .i64 0]
    rw [World.size_alloc] at this; exact this
  case round =>
    obtain ⟨k, hk, rfl, rfl, hb, hr, hbel⟩ := hrel
    by_cases hlt : k < len
    · obtain ⟨b, o, rfl, hbb, hc⟩ := HA.out (by omega)
      obtain ⟨m, hm'⟩ : ∃ m, mail[k]? = some m := ⟨_, List.getElem?_eq_getElem (by rw [HL.out]; exact hlt)⟩
      have hc0 := (hbel.cell (p := ⟨b, o + k * 1, none⟩) hbb).trans (hc k m hm' 0 _ rfl)
      simp only [Nat.mul_one] at hc0
      have HT := Lib.hid (lowG_take (old := ⟨a, l⟩) hm')
      have HL2 := Lib.hid (lowG_l ⟨a, l⟩ (mail.take k))
      clear hm' hc
      generalize hp : lowG ⟨a, l⟩ (mail.take k) = p at *
      have HP := Lib.hid hp; clear hp
      obtain ⟨⟨pa, pl⟩, ps⟩ := p
      have cb := hb.cell 0
      have fb := hb.froz 0
      simp only [List.getElem?_toArray] at cb
      have HB := Lib.hid hb; clear hb
      by_cases h1 : pa = -1
      · subst h1
        go_wp2
        go_roundw
        case rel => exact ⟨k + 1, by omega, by go_num, by rw [HT.out]; simp [lowS], by rw [HT.out]; simp only [lowS, true_or, if_true]; exact HB.out.set 0 _, hr.far (by simp) _, hbel.setCell (p := ⟨w.heap.size, 0, none⟩) (by simp) _⟩
        case measure => simp [intOf]; omega
      · have t1 : (pa == -1) = false := by simpa using h1
        by_cases h2 : m < pa
        · have t2 : decide (m < pa) = true := by simpa using h2
          go_wp2
          go_roundw
          case rel => exact ⟨k + 1, by omega, by go_num, by rw [HT.out]; simp [lowS, h2], by rw [HT.out]; simp only [lowS, h2, or_true, if_true]; exact HB.out.set 0 _, hr.far (by simp) _, hbel.setCell (p := ⟨w.heap.size, 0, none⟩) (by simp) _⟩
          case measure => simp [intOf]; omega
        · have t2 : decide (m < pa) = false := by simpa using h2
          go_wp2
          go_roundw
          case rel => exact ⟨k + 1, by omega, by go_num, by rw [HT.out]; simp [lowS, h1, h2], by rw [HT.out]; simp only [lowS, h1, h2, or_false, if_false]; exact HB.out, hr, hbel⟩
          case measure => simp [intOf]; omega
    · obtain rfl : k = len := by omega
      rw [List.take_of_length_le (by rw [HL.out]; exact Nat.le_refl _)] at hb ⊢
      generalize hp : lowG ⟨a, l⟩ mail = p at *
      have HP := Lib.hid hp; clear hp
      obtain ⟨⟨pa, pl⟩, ps⟩ := p
      have c0 := hb.cell 0
      have c1 := hb.cell 1
      have r0 := hr.cell 0
      have r1 := hr.cell 1
      have fr0 := hr.froz 0
      have fr1 := hr.froz 1
      simp only [List.getElem?_toArray] at c0 c1 r0 r1
      go_wp2
      have RB := (hr.set 0 (.int .i64 pa)).set 1 (.int .i64 l)
      have d0 := (RB.cell 0).trans (show _ = some (Value.int .i64 pa) from rfl)
      have d1 := (RB.cell 1).trans (show _ = some (Value.int .i64 l) from rfl)
      refine bodyPost_ret (v := .tuple #[.agg #[.int .i64 pa, .int .i64 l], .bool ps]) ?_ rfl ⟨by rw [HP.out], (hbel.setCell (p := ⟨w.heap.size + 1, 0, none⟩) (by simp) _).setCell (p := ⟨w.heap.size + 1, 1, none⟩) (by simp) _⟩
      simp [results, Try.f115, go_sem, d0, d1]
end Go.Proofs.Ytbholafggbdieaa
