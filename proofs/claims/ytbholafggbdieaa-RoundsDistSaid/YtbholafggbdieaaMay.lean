/- rounds.may: a state that may be. -/
import Derived.Test.YtbholafggbdieaaSorted
namespace Go.Proofs.Ytbholafggbdieaa
open Go.RowKit

theorem total_take {mail : List (List Int)} {k : Nat} {l : List Int} (h : mail[k]? = some l) : total (mail.take (k + 1)) = total (mail.take k) + l.length := by
  unfold total; rw [List.take_add_one, h]; simp
theorem total_le (mail : List (List Int)) (k : Nat) : total (mail.take k) ≤ total mail := by
  have : ∀ (l : List (List Int)) (k : Nat), total (l.take k) ≤ total l := by
    intro l
    induction l with
    | nil => intro k; simp [total]
    | cons x xs ih =>
      intro k
      cases k with
      | zero => simp [total]
      | succ k =>
        have := ih k
        unfold total at this ⊢
        simp only [List.take_succ_cons, List.map_cons, List.sum_cons]; omega
  exact this mail k

/-- What a round of may's loop finds. -/
structure MayAt (kind : Int) (x : Vl) (l : List Int) : Prop where
  val : valB kind x = true
  sorted : l.Pairwise (· ≤ ·)
  range : ∀ m ∈ l, 0 ≤ m ∧ m ≤ topG kind

set_option maxRecDepth 100000 in
set_option maxHeartbeats 4000000 in
theorem may_any (j : Jb) (s : Stt) (hj : GoodJ j) (hs : GoodS j s) (ev vv mv : Value) (w : World) (hr : StR w s vv mv) :
    Calls Try.prog 24 #[.agg #[.int .i64 j.n, ev, .int .i64 j.kind, .int .i64 j.src], .agg #[.int .i64 s.step, .int .i64 s.phase, .bool s.fresh, .bool s.done, vv, mv]] w fun e w' => e = .returned (.bool true) ∧ Below w.heap.size w w' := by
  obtain ⟨⟨A, c, rfl, hac, hcm, hA⟩, vs, hvl, ⟨B, d, rfl, hbd, hdm, hB⟩, hrows⟩ := hr
  have hn1 := hj.top
  obtain ⟨q0, q1, q2, q3, q4, q5, q6, q7, q8, q9, q10⟩ := hs
  have hkk := hj.kind
  clear hj
  obtain ⟨ni, es, kind, src⟩ := j
  obtain ⟨step, phase, fresh, done, vals, mail⟩ := s
  simp only at *
  obtain ⟨n, rfl⟩ : ∃ n : Nat, ni = (n : Int) := ⟨ni.toNat, by omega⟩
  have e1 : vals.length = n := by omega
  have e2 : mail.length = n := by omega
  rw [e1] at hac
  rw [hvl, e2] at hbd
  have AT : Hid (∀ k, k < n → ∃ x l u, vals[k]? = some x ∧ mail[k]? = some l ∧ vs[k]? = some u ∧ MayAt kind x l ∧ Sl 1 encN w w.heap.size u l) := by
    intro k hk
    refine ⟨_, _, _, List.getElem?_eq_getElem (by omega), List.getElem?_eq_getElem (by omega), List.getElem?_eq_getElem (by omega), ⟨q6 _ (List.getElem_mem _), q7 _ (List.getElem_mem _), q8 _ (List.getElem_mem _)⟩, ?_⟩
    exact hrows k _ _ (List.getElem?_eq_getElem (by omega)) (List.getElem?_eq_getElem (by omega))
  have TT := Lib.hid (fun k => Nat.le_trans (total_le mail k) q9)
  have TE : Hid (total (mail.take n) = total mail) := by unfold Hid; rw [List.take_of_length_le (by omega)]
  have q10' : Hid (total mail = 0 ∨ (fresh = false ∧ done = false)) := q10
  have HA := Lib.hid hA; have HB := Lib.hid hB; have E1 := Lib.hid e1; have E2 := Lib.hid e2; have E3 := Lib.hid (hvl.trans e2); have Q9 := Lib.hid q9
  clear hA hB hrows q2 q3 q6 q7 q8 q9 q10
  unfold maxLen at hcm hdm
  rw [e1, hvl, e2]
  clear e1 e2 hvl
  have t0 : decide (step < 0) = false := by simp; omega
  have t1 : decide (100000 < step) = false := by simp; omega
  have hf : (fresh = false ∧ done = false) ∨ (fresh = false ∧ done = true) ∨ (fresh = true ∧ done = false) := by
    cases fresh <;> cases done <;> simp_all
  have hp : (phase = 0 ∧ kind = 1) ∨ (phase = 0 ∧ (kind == 1) = false ∧ topG kind = 199) ∨ (phase = 1 ∧ kind = 3 ∧ topG kind = 199) := by
    rcases q5 with rfl | ⟨rfl, rfl⟩
    · rcases hkk with rfl | rfl | rfl
      · exact .inl ⟨rfl, rfl⟩
      · exact .inr (.inl ⟨rfl, by decide, by decide⟩)
      · exact .inr (.inl ⟨rfl, by decide, by decide⟩)
    · exact .inr (.inr ⟨rfl, rfl, by decide⟩)
  clear q5 hkk q4
  obtain ⟨TP, hTP⟩ : ∃ t, topG kind = t := ⟨_, rfl⟩
  have HTP := Lib.hid hTP
  rcases hp with ⟨rfl, rfl⟩ | ⟨rfl, hk1, ht⟩ | ⟨rfl, rfl, ht⟩
  · obtain rfl : TP = 4398046511104 := by rw [← hTP]; decide
    clear hTP
    rcases hf with ⟨rfl, rfl⟩ | ⟨rfl, rfl⟩ | ⟨rfl, rfl⟩
    · skip
      go_enter Try.func24, Try.ntmps24
      go_wp2
      go_loopw [7, 8, 9, 10, 63] (fun m _ _ _ i wr => ∃ k : Nat, k ≤ n ∧ i = .int .i64 k ∧ m = .int .i64 (total (mail.take k)) ∧ Bk wr (w.heap.size + 1) 32 #[.int .i64 step, .int .i64 0, .bool false, .bool false, .slice A n c, .slice B n d] ∧ Below w.heap.size w wr) (fun _ _ _ _ i _ => n - (intOf i).toNat)
      case atStart => exact ⟨0, Nat.zero_le _, rfl, rfl, cellr _ _ _ _, below_two _ _ _⟩
      case round =>
        obtain ⟨k, hk, rfl, rfl, hb, hbel⟩ := hrel
        have c4 := hb.cell 4
        simp only [List.getElem?_toArray] at c4
        have hB := hbel.size
        by_cases hlt : k < n
        · obtain ⟨x, l, u, hx, hl, hu, ⟨m1, m2, m3⟩, hsl⟩ := AT.out k hlt
          obtain ⟨x0, x1, x2, x3⟩ := val_parts m1
          rw [HTP.out] at x1 m3
          obtain ⟨b, o, rfl, hbb, hc⟩ := HA.out (by rw [E1.out]; omega)
          obtain ⟨b', o', rfl, hbb', hc'⟩ := HB.out (by rw [E3.out]; omega)
          have a0 := (hbel.cell (p := ⟨b, o + k * 2, none⟩) hbb).trans (hc k x hx 0 _ rfl)
          have a1 := (hbel.cell (p := ⟨b, o + k * 2 + 1, none⟩) hbb).trans (hc k x hx 1 _ rfl)
          have r0 := (hbel.cell (p := ⟨b', o' + k * 1, none⟩) hbb').trans (hc' k u hu 0 _ rfl)
          simp only [Nat.mul_one] at r0
          have SO := Lib.hid (fun W (hW : Below w.heap.size w W) => sorted_yes l u W (hsl.old hW) m2)
          have TK := Lib.hid (total_take hl)
          have TB := TT.out (k + 1)
          rw [TK.out] at TB
          obtain ⟨xa, xl⟩ := x
          simp only at x0 x1 x2 x3 a0 a1
          have d0 : decide (xa < -1) = false := by simp; omega
          have d1 : decide (4398046511104 < xa) = false := by simp; omega
          have d2 : decide (xl < -1) = false := by simp; omega
          have d3 : decide (200 ≤ xl) = false := by simp; omega
          clear hx hl hu hc hc'
          have HSL := Lib.hid hsl
          obtain ⟨C, cc, rfl, hcc, hccm, hC⟩ := hsl
          unfold maxLen at hccm
          have HC := Lib.hid hC; have M3 := Lib.hid m3
          clear hC m1 m2 m3
          have HBK := Lib.hid hb
          clear hb
          rcases Nat.eq_zero_or_pos l.length with hl0 | hl0
          · have TK2 : Hid (total (mail.take (k + 1)) = total (mail.take k)) := by unfold Hid; rw [TK.out, hl0]; rfl
            obtain rfl := List.eq_nil_of_length_eq_zero hl0
            clear hl0
            simp only [List.length_nil, Nat.add_zero] at r0 TB
            go_wp2_with (go_at_call 42; refine (SO.out _ (hbel.alloc hB _)).mono ?_; rintro e w2 ⟨rfl, hb2⟩)
            go_roundw
            case rel => exact ⟨k + 1, by omega, by go_num, by rw [TK2.out], (HBK.out.alloc _).old hb2, (hbel.alloc hB _).trans (hb2.mono (hbel.alloc hB _).size)⟩
            case measure => simp [intOf]; omega
          · obtain ⟨cb, co, rfl, hcb, hcc2⟩ := HC.out hl0
            obtain ⟨y, hy⟩ : ∃ y, l[0]? = some y := ⟨_, List.getElem?_eq_getElem hl0⟩
            obtain ⟨z, hz⟩ : ∃ z, l[l.length - 1]? = some z := ⟨_, List.getElem?_eq_getElem (by omega)⟩
            have y0 := (M3.out y (List.mem_of_getElem? hy)).1
            have z1 := (M3.out z (List.mem_of_getElem? hz)).2
            have cy := hcc2 0 y hy 0 _ rfl
            have cz := hcc2 _ z hz 0 _ rfl
            simp only [Nat.add_zero, Nat.mul_one] at cy cz
            generalize hL : l.length = L at *
            have HL := Lib.hid hL
            have CY := Lib.hid cy; have CZ := Lib.hid cz
            clear hy hz cy cz hcc2 hL
            have d4 : decide (y < 0) = false := by simp; omega
            have d5 : decide (4398046511104 < z) = false := by simp; omega
            go_wp2_with (go_at_call 42; refine (SO.out _ (hbel.alloc hB _)).mono ?_; rintro e w2 ⟨rfl, hb2⟩; have hb02 := (hbel.alloc hB _).trans (hb2.mono (hbel.alloc hB _).size); have y2 := (hb02.cell (p := ⟨cb, co, none⟩) hcb).trans CY.out; have z2 := (hb02.cell (p := ⟨cb, co + (L - 1), none⟩) hcb).trans CZ.out)
            go_roundw
            case rel => exact ⟨k + 1, by omega, by go_num, by rw [TK.out]; first | rfl | (simp; omega), (HBK.out.alloc _).old hb2, hb02⟩
            case measure => simp [intOf]; omega
        · obtain rfl : k = n := by omega
          have TL := TT.out k
          have c2 := hb.cell 2
          have c3 := hb.cell 3
          simp only [List.getElem?_toArray] at c2 c3
          have TL2 : ((total (mail.take k) : Nat) : Int) ≤ 5000 := by omega
          clear TL
          rcases Nat.eq_zero_or_pos (total (mail.take k)) with hT | hT
          · have z1 : ((total (mail.take k) : Nat) : Int) = 0 := by omega
            rw [z1]
            go_wp2
            go_ret
            exact ⟨rfl, hbel⟩
          · have z2 : (((total (mail.take k) : Nat) : Int) == 0) = false := by simp; omega
            go_wp2
            go_ret
            exact ⟨rfl, hbel⟩
    · skip
      go_enter Try.func24, Try.ntmps24
      go_wp2
      go_loopw [7, 8, 9, 10, 63] (fun m _ _ _ i wr => ∃ k : Nat, k ≤ n ∧ i = .int .i64 k ∧ m = .int .i64 (total (mail.take k)) ∧ Bk wr (w.heap.size + 1) 32 #[.int .i64 step, .int .i64 0, .bool false, .bool true, .slice A n c, .slice B n d] ∧ Below w.heap.size w wr) (fun _ _ _ _ i _ => n - (intOf i).toNat)
      case atStart => exact ⟨0, Nat.zero_le _, rfl, rfl, cellr _ _ _ _, below_two _ _ _⟩
      case round =>
        obtain ⟨k, hk, rfl, rfl, hb, hbel⟩ := hrel
        have c4 := hb.cell 4
        simp only [List.getElem?_toArray] at c4
        have hB := hbel.size
        by_cases hlt : k < n
        · obtain ⟨x, l, u, hx, hl, hu, ⟨m1, m2, m3⟩, hsl⟩ := AT.out k hlt
          obtain ⟨x0, x1, x2, x3⟩ := val_parts m1
          rw [HTP.out] at x1 m3
          obtain ⟨b, o, rfl, hbb, hc⟩ := HA.out (by rw [E1.out]; omega)
          obtain ⟨b', o', rfl, hbb', hc'⟩ := HB.out (by rw [E3.out]; omega)
          have a0 := (hbel.cell (p := ⟨b, o + k * 2, none⟩) hbb).trans (hc k x hx 0 _ rfl)
          have a1 := (hbel.cell (p := ⟨b, o + k * 2 + 1, none⟩) hbb).trans (hc k x hx 1 _ rfl)
          have r0 := (hbel.cell (p := ⟨b', o' + k * 1, none⟩) hbb').trans (hc' k u hu 0 _ rfl)
          simp only [Nat.mul_one] at r0
          have SO := Lib.hid (fun W (hW : Below w.heap.size w W) => sorted_yes l u W (hsl.old hW) m2)
          have TK := Lib.hid (total_take hl)
          have TB := TT.out (k + 1)
          rw [TK.out] at TB
          obtain ⟨xa, xl⟩ := x
          simp only at x0 x1 x2 x3 a0 a1
          have d0 : decide (xa < -1) = false := by simp; omega
          have d1 : decide (4398046511104 < xa) = false := by simp; omega
          have d2 : decide (xl < -1) = false := by simp; omega
          have d3 : decide (200 ≤ xl) = false := by simp; omega
          clear hx hl hu hc hc'
          have HSL := Lib.hid hsl
          obtain ⟨C, cc, rfl, hcc, hccm, hC⟩ := hsl
          unfold maxLen at hccm
          have HC := Lib.hid hC; have M3 := Lib.hid m3
          clear hC m1 m2 m3
          have HBK := Lib.hid hb
          clear hb
          rcases Nat.eq_zero_or_pos l.length with hl0 | hl0
          · have TK2 : Hid (total (mail.take (k + 1)) = total (mail.take k)) := by unfold Hid; rw [TK.out, hl0]; rfl
            obtain rfl := List.eq_nil_of_length_eq_zero hl0
            clear hl0
            simp only [List.length_nil, Nat.add_zero] at r0 TB
            go_wp2_with (go_at_call 42; refine (SO.out _ (hbel.alloc hB _)).mono ?_; rintro e w2 ⟨rfl, hb2⟩)
            go_roundw
            case rel => exact ⟨k + 1, by omega, by go_num, by rw [TK2.out], (HBK.out.alloc _).old hb2, (hbel.alloc hB _).trans (hb2.mono (hbel.alloc hB _).size)⟩
            case measure => simp [intOf]; omega
          · obtain ⟨cb, co, rfl, hcb, hcc2⟩ := HC.out hl0
            obtain ⟨y, hy⟩ : ∃ y, l[0]? = some y := ⟨_, List.getElem?_eq_getElem hl0⟩
            obtain ⟨z, hz⟩ : ∃ z, l[l.length - 1]? = some z := ⟨_, List.getElem?_eq_getElem (by omega)⟩
            have y0 := (M3.out y (List.mem_of_getElem? hy)).1
            have z1 := (M3.out z (List.mem_of_getElem? hz)).2
            have cy := hcc2 0 y hy 0 _ rfl
            have cz := hcc2 _ z hz 0 _ rfl
            simp only [Nat.add_zero, Nat.mul_one] at cy cz
            generalize hL : l.length = L at *
            have HL := Lib.hid hL
            have CY := Lib.hid cy; have CZ := Lib.hid cz
            clear hy hz cy cz hcc2 hL
            have d4 : decide (y < 0) = false := by simp; omega
            have d5 : decide (4398046511104 < z) = false := by simp; omega
            go_wp2_with (go_at_call 42; refine (SO.out _ (hbel.alloc hB _)).mono ?_; rintro e w2 ⟨rfl, hb2⟩; have hb02 := (hbel.alloc hB _).trans (hb2.mono (hbel.alloc hB _).size); have y2 := (hb02.cell (p := ⟨cb, co, none⟩) hcb).trans CY.out; have z2 := (hb02.cell (p := ⟨cb, co + (L - 1), none⟩) hcb).trans CZ.out)
            go_roundw
            case rel => exact ⟨k + 1, by omega, by go_num, by rw [TK.out]; first | rfl | (simp; omega), (HBK.out.alloc _).old hb2, hb02⟩
            case measure => simp [intOf]; omega
        · obtain rfl : k = n := by omega
          have TL := TT.out k
          have c2 := hb.cell 2
          have c3 := hb.cell 3
          simp only [List.getElem?_toArray] at c2 c3
          have TL2 : ((total (mail.take k) : Nat) : Int) ≤ 5000 := by omega
          clear TL
          rcases Nat.eq_zero_or_pos (total (mail.take k)) with hT | hT
          · have z1 : ((total (mail.take k) : Nat) : Int) = 0 := by omega
            rw [z1]
            go_wp2
            go_ret
            exact ⟨rfl, hbel⟩
          · exact absurd (TE.out ▸ q10'.out.resolve_right (by simp)) (by omega)
    · skip
      go_enter Try.func24, Try.ntmps24
      go_wp2
      go_loopw [7, 8, 9, 10, 63] (fun m _ _ _ i wr => ∃ k : Nat, k ≤ n ∧ i = .int .i64 k ∧ m = .int .i64 (total (mail.take k)) ∧ Bk wr (w.heap.size + 1) 32 #[.int .i64 step, .int .i64 0, .bool true, .bool false, .slice A n c, .slice B n d] ∧ Below w.heap.size w wr) (fun _ _ _ _ i _ => n - (intOf i).toNat)
      case atStart => exact ⟨0, Nat.zero_le _, rfl, rfl, cellr _ _ _ _, below_two _ _ _⟩
      case round =>
        obtain ⟨k, hk, rfl, rfl, hb, hbel⟩ := hrel
        have c4 := hb.cell 4
        simp only [List.getElem?_toArray] at c4
        have hB := hbel.size
        by_cases hlt : k < n
        · obtain ⟨x, l, u, hx, hl, hu, ⟨m1, m2, m3⟩, hsl⟩ := AT.out k hlt
          obtain ⟨x0, x1, x2, x3⟩ := val_parts m1
          rw [HTP.out] at x1 m3
          obtain ⟨b, o, rfl, hbb, hc⟩ := HA.out (by rw [E1.out]; omega)
          obtain ⟨b', o', rfl, hbb', hc'⟩ := HB.out (by rw [E3.out]; omega)
          have a0 := (hbel.cell (p := ⟨b, o + k * 2, none⟩) hbb).trans (hc k x hx 0 _ rfl)
          have a1 := (hbel.cell (p := ⟨b, o + k * 2 + 1, none⟩) hbb).trans (hc k x hx 1 _ rfl)
          have r0 := (hbel.cell (p := ⟨b', o' + k * 1, none⟩) hbb').trans (hc' k u hu 0 _ rfl)
          simp only [Nat.mul_one] at r0
          have SO := Lib.hid (fun W (hW : Below w.heap.size w W) => sorted_yes l u W (hsl.old hW) m2)
          have TK := Lib.hid (total_take hl)
          have TB := TT.out (k + 1)
          rw [TK.out] at TB
          obtain ⟨xa, xl⟩ := x
          simp only at x0 x1 x2 x3 a0 a1
          have d0 : decide (xa < -1) = false := by simp; omega
          have d1 : decide (4398046511104 < xa) = false := by simp; omega
          have d2 : decide (xl < -1) = false := by simp; omega
          have d3 : decide (200 ≤ xl) = false := by simp; omega
          clear hx hl hu hc hc'
          have HSL := Lib.hid hsl
          obtain ⟨C, cc, rfl, hcc, hccm, hC⟩ := hsl
          unfold maxLen at hccm
          have HC := Lib.hid hC; have M3 := Lib.hid m3
          clear hC m1 m2 m3
          have HBK := Lib.hid hb
          clear hb
          rcases Nat.eq_zero_or_pos l.length with hl0 | hl0
          · have TK2 : Hid (total (mail.take (k + 1)) = total (mail.take k)) := by unfold Hid; rw [TK.out, hl0]; rfl
            obtain rfl := List.eq_nil_of_length_eq_zero hl0
            clear hl0
            simp only [List.length_nil, Nat.add_zero] at r0 TB
            go_wp2_with (go_at_call 42; refine (SO.out _ (hbel.alloc hB _)).mono ?_; rintro e w2 ⟨rfl, hb2⟩)
            go_roundw
            case rel => exact ⟨k + 1, by omega, by go_num, by rw [TK2.out], (HBK.out.alloc _).old hb2, (hbel.alloc hB _).trans (hb2.mono (hbel.alloc hB _).size)⟩
            case measure => simp [intOf]; omega
          · obtain ⟨cb, co, rfl, hcb, hcc2⟩ := HC.out hl0
            obtain ⟨y, hy⟩ : ∃ y, l[0]? = some y := ⟨_, List.getElem?_eq_getElem hl0⟩
            obtain ⟨z, hz⟩ : ∃ z, l[l.length - 1]? = some z := ⟨_, List.getElem?_eq_getElem (by omega)⟩
            have y0 := (M3.out y (List.mem_of_getElem? hy)).1
            have z1 := (M3.out z (List.mem_of_getElem? hz)).2
            have cy := hcc2 0 y hy 0 _ rfl
            have cz := hcc2 _ z hz 0 _ rfl
            simp only [Nat.add_zero, Nat.mul_one] at cy cz
            generalize hL : l.length = L at *
            have HL := Lib.hid hL
            have CY := Lib.hid cy; have CZ := Lib.hid cz
            clear hy hz cy cz hcc2 hL
            have d4 : decide (y < 0) = false := by simp; omega
            have d5 : decide (4398046511104 < z) = false := by simp; omega
            go_wp2_with (go_at_call 42; refine (SO.out _ (hbel.alloc hB _)).mono ?_; rintro e w2 ⟨rfl, hb2⟩; have hb02 := (hbel.alloc hB _).trans (hb2.mono (hbel.alloc hB _).size); have y2 := (hb02.cell (p := ⟨cb, co, none⟩) hcb).trans CY.out; have z2 := (hb02.cell (p := ⟨cb, co + (L - 1), none⟩) hcb).trans CZ.out)
            go_roundw
            case rel => exact ⟨k + 1, by omega, by go_num, by rw [TK.out]; first | rfl | (simp; omega), (HBK.out.alloc _).old hb2, hb02⟩
            case measure => simp [intOf]; omega
        · obtain rfl : k = n := by omega
          have TL := TT.out k
          have c2 := hb.cell 2
          have c3 := hb.cell 3
          simp only [List.getElem?_toArray] at c2 c3
          have TL2 : ((total (mail.take k) : Nat) : Int) ≤ 5000 := by omega
          clear TL
          rcases Nat.eq_zero_or_pos (total (mail.take k)) with hT | hT
          · have z1 : ((total (mail.take k) : Nat) : Int) = 0 := by omega
            rw [z1]
            go_wp2
            go_ret
            exact ⟨rfl, hbel⟩
          · exact absurd (TE.out ▸ q10'.out.resolve_right (by simp)) (by omega)
  · obtain rfl : TP = 199 := by rw [← hTP]; exact ht
    clear hTP ht
    rcases hf with ⟨rfl, rfl⟩ | ⟨rfl, rfl⟩ | ⟨rfl, rfl⟩
    · skip
      go_enter Try.func24, Try.ntmps24
      go_wp2
      go_loopw [7, 8, 9, 10, 63] (fun m _ _ _ i wr => ∃ k : Nat, k ≤ n ∧ i = .int .i64 k ∧ m = .int .i64 (total (mail.take k)) ∧ Bk wr (w.heap.size + 1) 32 #[.int .i64 step, .int .i64 0, .bool false, .bool false, .slice A n c, .slice B n d] ∧ Below w.heap.size w wr) (fun _ _ _ _ i _ => n - (intOf i).toNat)
      case atStart => exact ⟨0, Nat.zero_le _, rfl, rfl, cellr _ _ _ _, below_two _ _ _⟩
      case round =>
        obtain ⟨k, hk, rfl, rfl, hb, hbel⟩ := hrel
        have c4 := hb.cell 4
        simp only [List.getElem?_toArray] at c4
        have hB := hbel.size
        by_cases hlt : k < n
        · obtain ⟨x, l, u, hx, hl, hu, ⟨m1, m2, m3⟩, hsl⟩ := AT.out k hlt
          obtain ⟨x0, x1, x2, x3⟩ := val_parts m1
          rw [HTP.out] at x1 m3
          obtain ⟨b, o, rfl, hbb, hc⟩ := HA.out (by rw [E1.out]; omega)
          obtain ⟨b', o', rfl, hbb', hc'⟩ := HB.out (by rw [E3.out]; omega)
          have a0 := (hbel.cell (p := ⟨b, o + k * 2, none⟩) hbb).trans (hc k x hx 0 _ rfl)
          have a1 := (hbel.cell (p := ⟨b, o + k * 2 + 1, none⟩) hbb).trans (hc k x hx 1 _ rfl)
          have r0 := (hbel.cell (p := ⟨b', o' + k * 1, none⟩) hbb').trans (hc' k u hu 0 _ rfl)
          simp only [Nat.mul_one] at r0
          have SO := Lib.hid (fun W (hW : Below w.heap.size w W) => sorted_yes l u W (hsl.old hW) m2)
          have TK := Lib.hid (total_take hl)
          have TB := TT.out (k + 1)
          rw [TK.out] at TB
          obtain ⟨xa, xl⟩ := x
          simp only at x0 x1 x2 x3 a0 a1
          have d0 : decide (xa < -1) = false := by simp; omega
          have d1 : decide (199 < xa) = false := by simp; omega
          have d2 : decide (xl < -1) = false := by simp; omega
          have d3 : decide (200 ≤ xl) = false := by simp; omega
          clear hx hl hu hc hc'
          have HSL := Lib.hid hsl
          obtain ⟨C, cc, rfl, hcc, hccm, hC⟩ := hsl
          unfold maxLen at hccm
          have HC := Lib.hid hC; have M3 := Lib.hid m3
          clear hC m1 m2 m3
          have HBK := Lib.hid hb
          clear hb
          rcases Nat.eq_zero_or_pos l.length with hl0 | hl0
          · have TK2 : Hid (total (mail.take (k + 1)) = total (mail.take k)) := by unfold Hid; rw [TK.out, hl0]; rfl
            obtain rfl := List.eq_nil_of_length_eq_zero hl0
            clear hl0
            simp only [List.length_nil, Nat.add_zero] at r0 TB
            go_wp2_with (go_at_call 42; refine (SO.out _ (hbel.alloc hB _)).mono ?_; rintro e w2 ⟨rfl, hb2⟩)
            go_roundw
            case rel => exact ⟨k + 1, by omega, by go_num, by rw [TK2.out], (HBK.out.alloc _).old hb2, (hbel.alloc hB _).trans (hb2.mono (hbel.alloc hB _).size)⟩
            case measure => simp [intOf]; omega
          · obtain ⟨cb, co, rfl, hcb, hcc2⟩ := HC.out hl0
            obtain ⟨y, hy⟩ : ∃ y, l[0]? = some y := ⟨_, List.getElem?_eq_getElem hl0⟩
            obtain ⟨z, hz⟩ : ∃ z, l[l.length - 1]? = some z := ⟨_, List.getElem?_eq_getElem (by omega)⟩
            have y0 := (M3.out y (List.mem_of_getElem? hy)).1
            have z1 := (M3.out z (List.mem_of_getElem? hz)).2
            have cy := hcc2 0 y hy 0 _ rfl
            have cz := hcc2 _ z hz 0 _ rfl
            simp only [Nat.add_zero, Nat.mul_one] at cy cz
            generalize hL : l.length = L at *
            have HL := Lib.hid hL
            have CY := Lib.hid cy; have CZ := Lib.hid cz
            clear hy hz cy cz hcc2 hL
            have d4 : decide (y < 0) = false := by simp; omega
            have d5 : decide (199 < z) = false := by simp; omega
            go_wp2_with (go_at_call 42; refine (SO.out _ (hbel.alloc hB _)).mono ?_; rintro e w2 ⟨rfl, hb2⟩; have hb02 := (hbel.alloc hB _).trans (hb2.mono (hbel.alloc hB _).size); have y2 := (hb02.cell (p := ⟨cb, co, none⟩) hcb).trans CY.out; have z2 := (hb02.cell (p := ⟨cb, co + (L - 1), none⟩) hcb).trans CZ.out)
            go_roundw
            case rel => exact ⟨k + 1, by omega, by go_num, by rw [TK.out]; first | rfl | (simp; omega), (HBK.out.alloc _).old hb2, hb02⟩
            case measure => simp [intOf]; omega
        · obtain rfl : k = n := by omega
          have TL := TT.out k
          have c2 := hb.cell 2
          have c3 := hb.cell 3
          simp only [List.getElem?_toArray] at c2 c3
          have TL2 : ((total (mail.take k) : Nat) : Int) ≤ 5000 := by omega
          clear TL
          rcases Nat.eq_zero_or_pos (total (mail.take k)) with hT | hT
          · have z1 : ((total (mail.take k) : Nat) : Int) = 0 := by omega
            rw [z1]
            go_wp2
            go_ret
            exact ⟨rfl, hbel⟩
          · have z2 : (((total (mail.take k) : Nat) : Int) == 0) = false := by simp; omega
            go_wp2
            go_ret
            exact ⟨rfl, hbel⟩
    · skip
      go_enter Try.func24, Try.ntmps24
      go_wp2
      go_loopw [7, 8, 9, 10, 63] (fun m _ _ _ i wr => ∃ k : Nat, k ≤ n ∧ i = .int .i64 k ∧ m = .int .i64 (total (mail.take k)) ∧ Bk wr (w.heap.size + 1) 32 #[.int .i64 step, .int .i64 0, .bool false, .bool true, .slice A n c, .slice B n d] ∧ Below w.heap.size w wr) (fun _ _ _ _ i _ => n - (intOf i).toNat)
      case atStart => exact ⟨0, Nat.zero_le _, rfl, rfl, cellr _ _ _ _, below_two _ _ _⟩
      case round =>
        obtain ⟨k, hk, rfl, rfl, hb, hbel⟩ := hrel
        have c4 := hb.cell 4
        simp only [List.getElem?_toArray] at c4
        have hB := hbel.size
        by_cases hlt : k < n
        · obtain ⟨x, l, u, hx, hl, hu, ⟨m1, m2, m3⟩, hsl⟩ := AT.out k hlt
          obtain ⟨x0, x1, x2, x3⟩ := val_parts m1
          rw [HTP.out] at x1 m3
          obtain ⟨b, o, rfl, hbb, hc⟩ := HA.out (by rw [E1.out]; omega)
          obtain ⟨b', o', rfl, hbb', hc'⟩ := HB.out (by rw [E3.out]; omega)
          have a0 := (hbel.cell (p := ⟨b, o + k * 2, none⟩) hbb).trans (hc k x hx 0 _ rfl)
          have a1 := (hbel.cell (p := ⟨b, o + k * 2 + 1, none⟩) hbb).trans (hc k x hx 1 _ rfl)
          have r0 := (hbel.cell (p := ⟨b', o' + k * 1, none⟩) hbb').trans (hc' k u hu 0 _ rfl)
          simp only [Nat.mul_one] at r0
          have SO := Lib.hid (fun W (hW : Below w.heap.size w W) => sorted_yes l u W (hsl.old hW) m2)
          have TK := Lib.hid (total_take hl)
          have TB := TT.out (k + 1)
          rw [TK.out] at TB
          obtain ⟨xa, xl⟩ := x
          simp only at x0 x1 x2 x3 a0 a1
          have d0 : decide (xa < -1) = false := by simp; omega
          have d1 : decide (199 < xa) = false := by simp; omega
          have d2 : decide (xl < -1) = false := by simp; omega
          have d3 : decide (200 ≤ xl) = false := by simp; omega
          clear hx hl hu hc hc'
          have HSL := Lib.hid hsl
          obtain ⟨C, cc, rfl, hcc, hccm, hC⟩ := hsl
          unfold maxLen at hccm
          have HC := Lib.hid hC; have M3 := Lib.hid m3
          clear hC m1 m2 m3
          have HBK := Lib.hid hb
          clear hb
          rcases Nat.eq_zero_or_pos l.length with hl0 | hl0
          · have TK2 : Hid (total (mail.take (k + 1)) = total (mail.take k)) := by unfold Hid; rw [TK.out, hl0]; rfl
            obtain rfl := List.eq_nil_of_length_eq_zero hl0
            clear hl0
            simp only [List.length_nil, Nat.add_zero] at r0 TB
            go_wp2_with (go_at_call 42; refine (SO.out _ (hbel.alloc hB _)).mono ?_; rintro e w2 ⟨rfl, hb2⟩)
            go_roundw
            case rel => exact ⟨k + 1, by omega, by go_num, by rw [TK2.out], (HBK.out.alloc _).old hb2, (hbel.alloc hB _).trans (hb2.mono (hbel.alloc hB _).size)⟩
            case measure => simp [intOf]; omega
          · obtain ⟨cb, co, rfl, hcb, hcc2⟩ := HC.out hl0
            obtain ⟨y, hy⟩ : ∃ y, l[0]? = some y := ⟨_, List.getElem?_eq_getElem hl0⟩
            obtain ⟨z, hz⟩ : ∃ z, l[l.length - 1]? = some z := ⟨_, List.getElem?_eq_getElem (by omega)⟩
            have y0 := (M3.out y (List.mem_of_getElem? hy)).1
            have z1 := (M3.out z (List.mem_of_getElem? hz)).2
            have cy := hcc2 0 y hy 0 _ rfl
            have cz := hcc2 _ z hz 0 _ rfl
            simp only [Nat.add_zero, Nat.mul_one] at cy cz
            generalize hL : l.length = L at *
            have HL := Lib.hid hL
            have CY := Lib.hid cy; have CZ := Lib.hid cz
            clear hy hz cy cz hcc2 hL
            have d4 : decide (y < 0) = false := by simp; omega
            have d5 : decide (199 < z) = false := by simp; omega
            go_wp2_with (go_at_call 42; refine (SO.out _ (hbel.alloc hB _)).mono ?_; rintro e w2 ⟨rfl, hb2⟩; have hb02 := (hbel.alloc hB _).trans (hb2.mono (hbel.alloc hB _).size); have y2 := (hb02.cell (p := ⟨cb, co, none⟩) hcb).trans CY.out; have z2 := (hb02.cell (p := ⟨cb, co + (L - 1), none⟩) hcb).trans CZ.out)
            go_roundw
            case rel => exact ⟨k + 1, by omega, by go_num, by rw [TK.out]; first | rfl | (simp; omega), (HBK.out.alloc _).old hb2, hb02⟩
            case measure => simp [intOf]; omega
        · obtain rfl : k = n := by omega
          have TL := TT.out k
          have c2 := hb.cell 2
          have c3 := hb.cell 3
          simp only [List.getElem?_toArray] at c2 c3
          have TL2 : ((total (mail.take k) : Nat) : Int) ≤ 5000 := by omega
          clear TL
          rcases Nat.eq_zero_or_pos (total (mail.take k)) with hT | hT
          · have z1 : ((total (mail.take k) : Nat) : Int) = 0 := by omega
            rw [z1]
            go_wp2
            go_ret
            exact ⟨rfl, hbel⟩
          · exact absurd (TE.out ▸ q10'.out.resolve_right (by simp)) (by omega)
    · skip
      go_enter Try.func24, Try.ntmps24
      go_wp2
      go_loopw [7, 8, 9, 10, 63] (fun m _ _ _ i wr => ∃ k : Nat, k ≤ n ∧ i = .int .i64 k ∧ m = .int .i64 (total (mail.take k)) ∧ Bk wr (w.heap.size + 1) 32 #[.int .i64 step, .int .i64 0, .bool true, .bool false, .slice A n c, .slice B n d] ∧ Below w.heap.size w wr) (fun _ _ _ _ i _ => n - (intOf i).toNat)
      case atStart => exact ⟨0, Nat.zero_le _, rfl, rfl, cellr _ _ _ _, below_two _ _ _⟩
      case round =>
        obtain ⟨k, hk, rfl, rfl, hb, hbel⟩ := hrel
        have c4 := hb.cell 4
        simp only [List.getElem?_toArray] at c4
        have hB := hbel.size
        by_cases hlt : k < n
        · obtain ⟨x, l, u, hx, hl, hu, ⟨m1, m2, m3⟩, hsl⟩ := AT.out k hlt
          obtain ⟨x0, x1, x2, x3⟩ := val_parts m1
          rw [HTP.out] at x1 m3
          obtain ⟨b, o, rfl, hbb, hc⟩ := HA.out (by rw [E1.out]; omega)
          obtain ⟨b', o', rfl, hbb', hc'⟩ := HB.out (by rw [E3.out]; omega)
          have a0 := (hbel.cell (p := ⟨b, o + k * 2, none⟩) hbb).trans (hc k x hx 0 _ rfl)
          have a1 := (hbel.cell (p := ⟨b, o + k * 2 + 1, none⟩) hbb).trans (hc k x hx 1 _ rfl)
          have r0 := (hbel.cell (p := ⟨b', o' + k * 1, none⟩) hbb').trans (hc' k u hu 0 _ rfl)
          simp only [Nat.mul_one] at r0
          have SO := Lib.hid (fun W (hW : Below w.heap.size w W) => sorted_yes l u W (hsl.old hW) m2)
          have TK := Lib.hid (total_take hl)
          have TB := TT.out (k + 1)
          rw [TK.out] at TB
          obtain ⟨xa, xl⟩ := x
          simp only at x0 x1 x2 x3 a0 a1
          have d0 : decide (xa < -1) = false := by simp; omega
          have d1 : decide (199 < xa) = false := by simp; omega
          have d2 : decide (xl < -1) = false := by simp; omega
          have d3 : decide (200 ≤ xl) = false := by simp; omega
          clear hx hl hu hc hc'
          have HSL := Lib.hid hsl
          obtain ⟨C, cc, rfl, hcc, hccm, hC⟩ := hsl
          unfold maxLen at hccm
          have HC := Lib.hid hC; have M3 := Lib.hid m3
          clear hC m1 m2 m3
          have HBK := Lib.hid hb
          clear hb
          rcases Nat.eq_zero_or_pos l.length with hl0 | hl0
          · have TK2 : Hid (total (mail.take (k + 1)) = total (mail.take k)) := by unfold Hid; rw [TK.out, hl0]; rfl
            obtain rfl := List.eq_nil_of_length_eq_zero hl0
            clear hl0
            simp only [List.length_nil, Nat.add_zero] at r0 TB
            go_wp2_with (go_at_call 42; refine (SO.out _ (hbel.alloc hB _)).mono ?_; rintro e w2 ⟨rfl, hb2⟩)
            go_roundw
            case rel => exact ⟨k + 1, by omega, by go_num, by rw [TK2.out], (HBK.out.alloc _).old hb2, (hbel.alloc hB _).trans (hb2.mono (hbel.alloc hB _).size)⟩
            case measure => simp [intOf]; omega
          · obtain ⟨cb, co, rfl, hcb, hcc2⟩ := HC.out hl0
            obtain ⟨y, hy⟩ : ∃ y, l[0]? = some y := ⟨_, List.getElem?_eq_getElem hl0⟩
            obtain ⟨z, hz⟩ : ∃ z, l[l.length - 1]? = some z := ⟨_, List.getElem?_eq_getElem (by omega)⟩
            have y0 := (M3.out y (List.mem_of_getElem? hy)).1
            have z1 := (M3.out z (List.mem_of_getElem? hz)).2
            have cy := hcc2 0 y hy 0 _ rfl
            have cz := hcc2 _ z hz 0 _ rfl
            simp only [Nat.add_zero, Nat.mul_one] at cy cz
            generalize hL : l.length = L at *
            have HL := Lib.hid hL
            have CY := Lib.hid cy; have CZ := Lib.hid cz
            clear hy hz cy cz hcc2 hL
            have d4 : decide (y < 0) = false := by simp; omega
            have d5 : decide (199 < z) = false := by simp; omega
            go_wp2_with (go_at_call 42; refine (SO.out _ (hbel.alloc hB _)).mono ?_; rintro e w2 ⟨rfl, hb2⟩; have hb02 := (hbel.alloc hB _).trans (hb2.mono (hbel.alloc hB _).size); have y2 := (hb02.cell (p := ⟨cb, co, none⟩) hcb).trans CY.out; have z2 := (hb02.cell (p := ⟨cb, co + (L - 1), none⟩) hcb).trans CZ.out)
            go_roundw
            case rel => exact ⟨k + 1, by omega, by go_num, by rw [TK.out]; first | rfl | (simp; omega), (HBK.out.alloc _).old hb2, hb02⟩
            case measure => simp [intOf]; omega
        · obtain rfl : k = n := by omega
          have TL := TT.out k
          have c2 := hb.cell 2
          have c3 := hb.cell 3
          simp only [List.getElem?_toArray] at c2 c3
          have TL2 : ((total (mail.take k) : Nat) : Int) ≤ 5000 := by omega
          clear TL
          rcases Nat.eq_zero_or_pos (total (mail.take k)) with hT | hT
          · have z1 : ((total (mail.take k) : Nat) : Int) = 0 := by omega
            rw [z1]
            go_wp2
            go_ret
            exact ⟨rfl, hbel⟩
          · exact absurd (TE.out ▸ q10'.out.resolve_right (by simp)) (by omega)
  · obtain rfl : TP = 199 := by rw [← hTP]; exact ht
    clear hTP ht
    rcases hf with ⟨rfl, rfl⟩ | ⟨rfl, rfl⟩ | ⟨rfl, rfl⟩
    · skip
      go_enter Try.func24, Try.ntmps24
      go_wp2
      go_loopw [7, 8, 9, 10, 63] (fun m _ _ _ i wr => ∃ k : Nat, k ≤ n ∧ i = .int .i64 k ∧ m = .int .i64 (total (mail.take k)) ∧ Bk wr (w.heap.size + 1) 32 #[.int .i64 step, .int .i64 1, .bool false, .bool false, .slice A n c, .slice B n d] ∧ Below w.heap.size w wr) (fun _ _ _ _ i _ => n - (intOf i).toNat)
      case atStart => exact ⟨0, Nat.zero_le _, rfl, rfl, cellr _ _ _ _, below_two _ _ _⟩
      case round =>
        obtain ⟨k, hk, rfl, rfl, hb, hbel⟩ := hrel
        have c4 := hb.cell 4
        simp only [List.getElem?_toArray] at c4
        have hB := hbel.size
        by_cases hlt : k < n
        · obtain ⟨x, l, u, hx, hl, hu, ⟨m1, m2, m3⟩, hsl⟩ := AT.out k hlt
          obtain ⟨x0, x1, x2, x3⟩ := val_parts m1
          rw [HTP.out] at x1 m3
          obtain ⟨b, o, rfl, hbb, hc⟩ := HA.out (by rw [E1.out]; omega)
          obtain ⟨b', o', rfl, hbb', hc'⟩ := HB.out (by rw [E3.out]; omega)
          have a0 := (hbel.cell (p := ⟨b, o + k * 2, none⟩) hbb).trans (hc k x hx 0 _ rfl)
          have a1 := (hbel.cell (p := ⟨b, o + k * 2 + 1, none⟩) hbb).trans (hc k x hx 1 _ rfl)
          have r0 := (hbel.cell (p := ⟨b', o' + k * 1, none⟩) hbb').trans (hc' k u hu 0 _ rfl)
          simp only [Nat.mul_one] at r0
          have SO := Lib.hid (fun W (hW : Below w.heap.size w W) => sorted_yes l u W (hsl.old hW) m2)
          have TK := Lib.hid (total_take hl)
          have TB := TT.out (k + 1)
          rw [TK.out] at TB
          obtain ⟨xa, xl⟩ := x
          simp only at x0 x1 x2 x3 a0 a1
          have d0 : decide (xa < -1) = false := by simp; omega
          have d1 : decide (199 < xa) = false := by simp; omega
          have d2 : decide (xl < -1) = false := by simp; omega
          have d3 : decide (200 ≤ xl) = false := by simp; omega
          clear hx hl hu hc hc'
          have HSL := Lib.hid hsl
          obtain ⟨C, cc, rfl, hcc, hccm, hC⟩ := hsl
          unfold maxLen at hccm
          have HC := Lib.hid hC; have M3 := Lib.hid m3
          clear hC m1 m2 m3
          have HBK := Lib.hid hb
          clear hb
          rcases Nat.eq_zero_or_pos l.length with hl0 | hl0
          · have TK2 : Hid (total (mail.take (k + 1)) = total (mail.take k)) := by unfold Hid; rw [TK.out, hl0]; rfl
            obtain rfl := List.eq_nil_of_length_eq_zero hl0
            clear hl0
            simp only [List.length_nil, Nat.add_zero] at r0 TB
            go_wp2_with (go_at_call 42; refine (SO.out _ (hbel.alloc hB _)).mono ?_; rintro e w2 ⟨rfl, hb2⟩)
            go_roundw
            case rel => exact ⟨k + 1, by omega, by go_num, by rw [TK2.out], (HBK.out.alloc _).old hb2, (hbel.alloc hB _).trans (hb2.mono (hbel.alloc hB _).size)⟩
            case measure => simp [intOf]; omega
          · obtain ⟨cb, co, rfl, hcb, hcc2⟩ := HC.out hl0
            obtain ⟨y, hy⟩ : ∃ y, l[0]? = some y := ⟨_, List.getElem?_eq_getElem hl0⟩
            obtain ⟨z, hz⟩ : ∃ z, l[l.length - 1]? = some z := ⟨_, List.getElem?_eq_getElem (by omega)⟩
            have y0 := (M3.out y (List.mem_of_getElem? hy)).1
            have z1 := (M3.out z (List.mem_of_getElem? hz)).2
            have cy := hcc2 0 y hy 0 _ rfl
            have cz := hcc2 _ z hz 0 _ rfl
            simp only [Nat.add_zero, Nat.mul_one] at cy cz
            generalize hL : l.length = L at *
            have HL := Lib.hid hL
            have CY := Lib.hid cy; have CZ := Lib.hid cz
            clear hy hz cy cz hcc2 hL
            have d4 : decide (y < 0) = false := by simp; omega
            have d5 : decide (199 < z) = false := by simp; omega
            go_wp2_with (go_at_call 42; refine (SO.out _ (hbel.alloc hB _)).mono ?_; rintro e w2 ⟨rfl, hb2⟩; have hb02 := (hbel.alloc hB _).trans (hb2.mono (hbel.alloc hB _).size); have y2 := (hb02.cell (p := ⟨cb, co, none⟩) hcb).trans CY.out; have z2 := (hb02.cell (p := ⟨cb, co + (L - 1), none⟩) hcb).trans CZ.out)
            go_roundw
            case rel => exact ⟨k + 1, by omega, by go_num, by rw [TK.out]; first | rfl | (simp; omega), (HBK.out.alloc _).old hb2, hb02⟩
            case measure => simp [intOf]; omega
        · obtain rfl : k = n := by omega
          have TL := TT.out k
          have c2 := hb.cell 2
          have c3 := hb.cell 3
          simp only [List.getElem?_toArray] at c2 c3
          have TL2 : ((total (mail.take k) : Nat) : Int) ≤ 5000 := by omega
          clear TL
          rcases Nat.eq_zero_or_pos (total (mail.take k)) with hT | hT
          · have z1 : ((total (mail.take k) : Nat) : Int) = 0 := by omega
            rw [z1]
            go_wp2
            go_ret
            exact ⟨rfl, hbel⟩
          · have z2 : (((total (mail.take k) : Nat) : Int) == 0) = false := by simp; omega
            go_wp2
            go_ret
            exact ⟨rfl, hbel⟩
    · skip
      go_enter Try.func24, Try.ntmps24
      go_wp2
      go_loopw [7, 8, 9, 10, 63] (fun m _ _ _ i wr => ∃ k : Nat, k ≤ n ∧ i = .int .i64 k ∧ m = .int .i64 (total (mail.take k)) ∧ Bk wr (w.heap.size + 1) 32 #[.int .i64 step, .int .i64 1, .bool false, .bool true, .slice A n c, .slice B n d] ∧ Below w.heap.size w wr) (fun _ _ _ _ i _ => n - (intOf i).toNat)
      case atStart => exact ⟨0, Nat.zero_le _, rfl, rfl, cellr _ _ _ _, below_two _ _ _⟩
      case round =>
        obtain ⟨k, hk, rfl, rfl, hb, hbel⟩ := hrel
        have c4 := hb.cell 4
        simp only [List.getElem?_toArray] at c4
        have hB := hbel.size
        by_cases hlt : k < n
        · obtain ⟨x, l, u, hx, hl, hu, ⟨m1, m2, m3⟩, hsl⟩ := AT.out k hlt
          obtain ⟨x0, x1, x2, x3⟩ := val_parts m1
          rw [HTP.out] at x1 m3
          obtain ⟨b, o, rfl, hbb, hc⟩ := HA.out (by rw [E1.out]; omega)
          obtain ⟨b', o', rfl, hbb', hc'⟩ := HB.out (by rw [E3.out]; omega)
          have a0 := (hbel.cell (p := ⟨b, o + k * 2, none⟩) hbb).trans (hc k x hx 0 _ rfl)
          have a1 := (hbel.cell (p := ⟨b, o + k * 2 + 1, none⟩) hbb).trans (hc k x hx 1 _ rfl)
          have r0 := (hbel.cell (p := ⟨b', o' + k * 1, none⟩) hbb').trans (hc' k u hu 0 _ rfl)
          simp only [Nat.mul_one] at r0
          have SO := Lib.hid (fun W (hW : Below w.heap.size w W) => sorted_yes l u W (hsl.old hW) m2)
          have TK := Lib.hid (total_take hl)
          have TB := TT.out (k + 1)
          rw [TK.out] at TB
          obtain ⟨xa, xl⟩ := x
          simp only at x0 x1 x2 x3 a0 a1
          have d0 : decide (xa < -1) = false := by simp; omega
          have d1 : decide (199 < xa) = false := by simp; omega
          have d2 : decide (xl < -1) = false := by simp; omega
          have d3 : decide (200 ≤ xl) = false := by simp; omega
          clear hx hl hu hc hc'
          have HSL := Lib.hid hsl
          obtain ⟨C, cc, rfl, hcc, hccm, hC⟩ := hsl
          unfold maxLen at hccm
          have HC := Lib.hid hC; have M3 := Lib.hid m3
          clear hC m1 m2 m3
          have HBK := Lib.hid hb
          clear hb
          rcases Nat.eq_zero_or_pos l.length with hl0 | hl0
          · have TK2 : Hid (total (mail.take (k + 1)) = total (mail.take k)) := by unfold Hid; rw [TK.out, hl0]; rfl
            obtain rfl := List.eq_nil_of_length_eq_zero hl0
            clear hl0
            simp only [List.length_nil, Nat.add_zero] at r0 TB
            go_wp2_with (go_at_call 42; refine (SO.out _ (hbel.alloc hB _)).mono ?_; rintro e w2 ⟨rfl, hb2⟩)
            go_roundw
            case rel => exact ⟨k + 1, by omega, by go_num, by rw [TK2.out], (HBK.out.alloc _).old hb2, (hbel.alloc hB _).trans (hb2.mono (hbel.alloc hB _).size)⟩
            case measure => simp [intOf]; omega
          · obtain ⟨cb, co, rfl, hcb, hcc2⟩ := HC.out hl0
            obtain ⟨y, hy⟩ : ∃ y, l[0]? = some y := ⟨_, List.getElem?_eq_getElem hl0⟩
            obtain ⟨z, hz⟩ : ∃ z, l[l.length - 1]? = some z := ⟨_, List.getElem?_eq_getElem (by omega)⟩
            have y0 := (M3.out y (List.mem_of_getElem? hy)).1
            have z1 := (M3.out z (List.mem_of_getElem? hz)).2
            have cy := hcc2 0 y hy 0 _ rfl
            have cz := hcc2 _ z hz 0 _ rfl
            simp only [Nat.add_zero, Nat.mul_one] at cy cz
            generalize hL : l.length = L at *
            have HL := Lib.hid hL
            have CY := Lib.hid cy; have CZ := Lib.hid cz
            clear hy hz cy cz hcc2 hL
            have d4 : decide (y < 0) = false := by simp; omega
            have d5 : decide (199 < z) = false := by simp; omega
            go_wp2_with (go_at_call 42; refine (SO.out _ (hbel.alloc hB _)).mono ?_; rintro e w2 ⟨rfl, hb2⟩; have hb02 := (hbel.alloc hB _).trans (hb2.mono (hbel.alloc hB _).size); have y2 := (hb02.cell (p := ⟨cb, co, none⟩) hcb).trans CY.out; have z2 := (hb02.cell (p := ⟨cb, co + (L - 1), none⟩) hcb).trans CZ.out)
            go_roundw
            case rel => exact ⟨k + 1, by omega, by go_num, by rw [TK.out]; first | rfl | (simp; omega), (HBK.out.alloc _).old hb2, hb02⟩
            case measure => simp [intOf]; omega
        · obtain rfl : k = n := by omega
          have TL := TT.out k
          have c2 := hb.cell 2
          have c3 := hb.cell 3
          simp only [List.getElem?_toArray] at c2 c3
          have TL2 : ((total (mail.take k) : Nat) : Int) ≤ 5000 := by omega
          clear TL
          rcases Nat.eq_zero_or_pos (total (mail.take k)) with hT | hT
          · have z1 : ((total (mail.take k) : Nat) : Int) = 0 := by omega
            rw [z1]
            go_wp2
            go_ret
            exact ⟨rfl, hbel⟩
          · exact absurd (TE.out ▸ q10'.out.resolve_right (by simp)) (by omega)
    · skip
      go_enter Try.func24, Try.ntmps24
      go_wp2
      go_loopw [7, 8, 9, 10, 63] (fun m _ _ _ i wr => ∃ k : Nat, k ≤ n ∧ i = .int .i64 k ∧ m = .int .i64 (total (mail.take k)) ∧ Bk wr (w.heap.size + 1) 32 #[.int .i64 step, .int .i64 1, .bool true, .bool false, .slice A n c, .slice B n d] ∧ Below w.heap.size w wr) (fun _ _ _ _ i _ => n - (intOf i).toNat)
      case atStart => exact ⟨0, Nat.zero_le _, rfl, rfl, cellr _ _ _ _, below_two _ _ _⟩
      case round =>
        obtain ⟨k, hk, rfl, rfl, hb, hbel⟩ := hrel
        have c4 := hb.cell 4
        simp only [List.getElem?_toArray] at c4
        have hB := hbel.size
        by_cases hlt : k < n
        · obtain ⟨x, l, u, hx, hl, hu, ⟨m1, m2, m3⟩, hsl⟩ := AT.out k hlt
          obtain ⟨x0, x1, x2, x3⟩ := val_parts m1
          rw [HTP.out] at x1 m3
          obtain ⟨b, o, rfl, hbb, hc⟩ := HA.out (by rw [E1.out]; omega)
          obtain ⟨b', o', rfl, hbb', hc'⟩ := HB.out (by rw [E3.out]; omega)
          have a0 := (hbel.cell (p := ⟨b, o + k * 2, none⟩) hbb).trans (hc k x hx 0 _ rfl)
          have a1 := (hbel.cell (p := ⟨b, o + k * 2 + 1, none⟩) hbb).trans (hc k x hx 1 _ rfl)
          have r0 := (hbel.cell (p := ⟨b', o' + k * 1, none⟩) hbb').trans (hc' k u hu 0 _ rfl)
          simp only [Nat.mul_one] at r0
          have SO := Lib.hid (fun W (hW : Below w.heap.size w W) => sorted_yes l u W (hsl.old hW) m2)
          have TK := Lib.hid (total_take hl)
          have TB := TT.out (k + 1)
          rw [TK.out] at TB
          obtain ⟨xa, xl⟩ := x
          simp only at x0 x1 x2 x3 a0 a1
          have d0 : decide (xa < -1) = false := by simp; omega
          have d1 : decide (199 < xa) = false := by simp; omega
          have d2 : decide (xl < -1) = false := by simp; omega
          have d3 : decide (200 ≤ xl) = false := by simp; omega
          clear hx hl hu hc hc'
          have HSL := Lib.hid hsl
          obtain ⟨C, cc, rfl, hcc, hccm, hC⟩ := hsl
          unfold maxLen at hccm
          have HC := Lib.hid hC; have M3 := Lib.hid m3
          clear hC m1 m2 m3
          have HBK := Lib.hid hb
          clear hb
          rcases Nat.eq_zero_or_pos l.length with hl0 | hl0
          · have TK2 : Hid (total (mail.take (k + 1)) = total (mail.take k)) := by unfold Hid; rw [TK.out, hl0]; rfl
            obtain rfl := List.eq_nil_of_length_eq_zero hl0
            clear hl0
            simp only [List.length_nil, Nat.add_zero] at r0 TB
            go_wp2_with (go_at_call 42; refine (SO.out _ (hbel.alloc hB _)).mono ?_; rintro e w2 ⟨rfl, hb2⟩)
            go_roundw
            case rel => exact ⟨k + 1, by omega, by go_num, by rw [TK2.out], (HBK.out.alloc _).old hb2, (hbel.alloc hB _).trans (hb2.mono (hbel.alloc hB _).size)⟩
            case measure => simp [intOf]; omega
          · obtain ⟨cb, co, rfl, hcb, hcc2⟩ := HC.out hl0
            obtain ⟨y, hy⟩ : ∃ y, l[0]? = some y := ⟨_, List.getElem?_eq_getElem hl0⟩
            obtain ⟨z, hz⟩ : ∃ z, l[l.length - 1]? = some z := ⟨_, List.getElem?_eq_getElem (by omega)⟩
            have y0 := (M3.out y (List.mem_of_getElem? hy)).1
            have z1 := (M3.out z (List.mem_of_getElem? hz)).2
            have cy := hcc2 0 y hy 0 _ rfl
            have cz := hcc2 _ z hz 0 _ rfl
            simp only [Nat.add_zero, Nat.mul_one] at cy cz
            generalize hL : l.length = L at *
            have HL := Lib.hid hL
            have CY := Lib.hid cy; have CZ := Lib.hid cz
            clear hy hz cy cz hcc2 hL
            have d4 : decide (y < 0) = false := by simp; omega
            have d5 : decide (199 < z) = false := by simp; omega
            go_wp2_with (go_at_call 42; refine (SO.out _ (hbel.alloc hB _)).mono ?_; rintro e w2 ⟨rfl, hb2⟩; have hb02 := (hbel.alloc hB _).trans (hb2.mono (hbel.alloc hB _).size); have y2 := (hb02.cell (p := ⟨cb, co, none⟩) hcb).trans CY.out; have z2 := (hb02.cell (p := ⟨cb, co + (L - 1), none⟩) hcb).trans CZ.out)
            go_roundw
            case rel => exact ⟨k + 1, by omega, by go_num, by rw [TK.out]; first | rfl | (simp; omega), (HBK.out.alloc _).old hb2, hb02⟩
            case measure => simp [intOf]; omega
        · obtain rfl : k = n := by omega
          have TL := TT.out k
          have c2 := hb.cell 2
          have c3 := hb.cell 3
          simp only [List.getElem?_toArray] at c2 c3
          have TL2 : ((total (mail.take k) : Nat) : Int) ≤ 5000 := by omega
          clear TL
          rcases Nat.eq_zero_or_pos (total (mail.take k)) with hT | hT
          · have z1 : ((total (mail.take k) : Nat) : Int) = 0 := by omega
            rw [z1]
            go_wp2
            go_ret
            exact ⟨rfl, hbel⟩
          · exact absurd (TE.out ▸ q10'.out.resolve_right (by simp)) (by omega)
end Go.Proofs.Ytbholafggbdieaa
