/- prog.Wake, whole. -/
import Derived.Test.YtbholafggbdieaaWake
namespace Go.Proofs.Ytbholafggbdieaa
open Go.RowKit

theorem cellr (w : World) (o : Obj) (cs : Array Value) (t : TypeId) : Bk ((w.alloc o).alloc (.cells cs t)) (w.heap.size + 1) t cs := by
  have := Bk.new (w.alloc o) t cs; rw [World.size_alloc] at this; exact this

set_option maxRecDepth 10000 in
set_option maxHeartbeats 1000000 in
theorem wakes_1 (v src : Int) (old : Vl) (phase : Int) (fresh : Bool) (mail : List Int) (mv : Value) (w : World) (hsl : Sl 1 encN w w.heap.size mv mail) (hp : phase = 0 ∨ (phase = 1 ∧ (1 : Int) = 3)) (hv0 : 0 ≤ v) (hv1 : v < 200)
    (hval : valB 1 old = true) (hm : ∀ m ∈ mail, 0 ≤ m ∧ m ≤ topG 1) :
    Calls Try.prog 13 #[.int .i64 1, .int .i64 v, .int .i64 src, .agg #[.int .i64 old.a, .int .i64 old.l], .int .i64 phase, .bool fresh, mv] w fun e w' =>
      e = .returned (.tuple #[.agg #[.int .i64 (wakeG 1 v src old phase fresh mail).1.a, .int .i64 (wakeG 1 v src old phase fresh mail).1.l], .bool (wakeG 1 v src old phase fresh mail).2, .int .i64 0]) ∧ Below w.heap.size w w' := by
  have J := Lib.hid (fun W => jobOf_yes 1 (by decide) W)
  rw [show jobT 1 = 109 from rfl] at J
  have P := Lib.hid (fun W => phases_yes 1 phase hp W)
  have V := Lib.hid (fun W => value_yes 1 old hval W)
  have TP := Lib.hid (fun W => top_any 1 W)
  have M := meth_wake_1
  obtain ⟨v0, v1, _, _⟩ := val_parts hval
  have WK := Lib.hid (fun W (hb : Below w.heap.size w W) => wake_1 v src old phase fresh mail mv W ((hsl.below hb).more hb.size) (by omega) (by have : topG 1 ≤ 4398046511104 := (by decide); omega))
  generalize wakeG 1 v src old phase fresh mail = r at *
  obtain ⟨⟨ra, rl⟩, rs⟩ := r
  obtain ⟨a, l⟩ := old
  simp only at v0 v1 ⊢
  generalize ht : topG 1 = t at *
  have t1 : decide (v < 0) = false := by simp; omega
  have t2 : decide (200 ≤ v) = false := by simp; omega
  clear hp hval v0 v1 ht
  obtain ⟨A, c, rfl, hac, hcm, hA⟩ := hsl
  unfold maxLen at hcm
  have HA := Lib.hid hA; have HM := Lib.hid hm
  clear hA hm
  generalize hlen : mail.length = len at *
  have HL := Lib.hid hlen; clear hlen
  go_enter Try.func13, Try.ntmps13
  go_wp2_with (first
    | (go_at_call 30; refine (J.out _).mono ?_; rintro e w1 ⟨rfl, rfl⟩)
    | (go_at_call 31; refine (P.out _).mono ?_; rintro e w1 ⟨rfl, rfl⟩)
    | (go_at_call 32; refine (V.out _).mono ?_; rintro e w2 ⟨rfl, hb2⟩))
  have HB := Lib.hid ((below_two w _ _).trans (hb2.mono (by simp; omega)))
  have BX := Lib.hid (((Bk.new w 40 #[.int .i64 a, .int .i64 l]).alloc (.cells #[.int .i64 0, .int .i64 0] 40)).old hb2)
  have RX := Lib.hid ((cellr w (.cells #[.int .i64 a, .int .i64 l] 40) #[.int .i64 0, .int .i64 0] 40).old hb2)
  clear hb2
  go_loopw [19, 48] (fun _ i wr => ∃ k : Nat, k ≤ len ∧ i = .int .i64 k ∧ wr = w2) (fun _ i _ => len - (intOf i).toNat)
  case atStart => exact ⟨0, Nat.zero_le _, rfl, rfl⟩
  case round =>
    obtain ⟨k, hk, rfl, rfl⟩ := hrel
    by_cases hlt : k < len
    · obtain ⟨b, o, rfl, hbb, hc⟩ := HA.out (by omega)
      obtain ⟨m, hm'⟩ : ∃ m, mail[k]? = some m := ⟨_, List.getElem?_eq_getElem (by rw [HL.out]; exact hlt)⟩
      have hc0 := (HB.out.cell (p := ⟨b, o + k * 1, none⟩) hbb).trans (hc k m hm' 0 _ rfl)
      simp only [Nat.mul_one] at hc0
      obtain ⟨m0, m1⟩ := HM.out m (List.mem_of_getElem? hm')
      have t3 : decide (m < 0) = false := by simp; omega
      have t4 : decide (t < m) = false := by simp; omega
      clear hm' hc
      go_wp2_with (go_at_call 33; refine (TP.out _).mono ?_; rintro e w3 ⟨rfl, rfl⟩)
      go_roundw
      case rel => exact ⟨k + 1, by omega, by go_num, by first | rfl | trivial⟩
      case measure => simp [intOf]; omega
    · obtain rfl : k = len := by omega
      have c0 := BX.out.cell 0
      have c1 := BX.out.cell 1
      simp only [List.getElem?_toArray] at c0 c1
      go_wp2_with fail
      refine (WK.out _ HB.out).mono ?_
      rintro e w3 ⟨rfl, hb3⟩
      have rx := RX.out.old hb3
      have r0 := fun o => (rx.alloc o).cell 0
      have r1 := fun o => (rx.alloc o).cell 1
      have f0 := fun o => (rx.alloc o).froz 0
      have f1 := fun o => (rx.alloc o).froz 1
      simp only [List.getElem?_toArray] at r0 r1
      have RX3 := Lib.hid rx
      have HB3 := Lib.hid (HB.out.trans (hb3.mono HB.out.size))
      clear rx hb3 c0 c1
      go_wp2
      have RB := ((RX3.out.alloc (.cells #[.int .i64 ra, .int .i64 rl] 40)).set 0 (.int .i64 ra)).set 1 (.int .i64 rl)
      have d0 := (RB.cell 0).trans (show _ = some (Value.int .i64 ra) from rfl)
      have d1 := (RB.cell 1).trans (show _ = some (Value.int .i64 rl) from rfl)
      refine bodyPost_ret (v := .tuple #[.agg #[.int .i64 ra, .int .i64 rl], .bool rs, .int .i64 0]) ?_ rfl ⟨rfl, ((HB3.out.alloc HB3.out.size _).setCell (p := ⟨w.heap.size + 1, 0, none⟩) (by simp) _).setCell (p := ⟨w.heap.size + 1, 1, none⟩) (by simp) _⟩
      simp [results, Try.f13, go_sem, d0, d1]

set_option maxRecDepth 10000 in
set_option maxHeartbeats 1000000 in
theorem wakes_2 (v src : Int) (old : Vl) (phase : Int) (fresh : Bool) (mail : List Int) (mv : Value) (w : World) (hsl : Sl 1 encN w w.heap.size mv mail) (hp : phase = 0 ∨ (phase = 1 ∧ (2 : Int) = 3)) (hv0 : 0 ≤ v) (hv1 : v < 200)
    (hval : valB 2 old = true) (hm : ∀ m ∈ mail, 0 ≤ m ∧ m ≤ topG 2) :
    Calls Try.prog 13 #[.int .i64 2, .int .i64 v, .int .i64 src, .agg #[.int .i64 old.a, .int .i64 old.l], .int .i64 phase, .bool fresh, mv] w fun e w' =>
      e = .returned (.tuple #[.agg #[.int .i64 (wakeG 2 v src old phase fresh mail).1.a, .int .i64 (wakeG 2 v src old phase fresh mail).1.l], .bool (wakeG 2 v src old phase fresh mail).2, .int .i64 0]) ∧ Below w.heap.size w w' := by
  have J := Lib.hid (fun W => jobOf_yes 2 (by decide) W)
  rw [show jobT 2 = 110 from rfl] at J
  have P := Lib.hid (fun W => phases_yes 2 phase hp W)
  have V := Lib.hid (fun W => value_yes 2 old hval W)
  have TP := Lib.hid (fun W => top_any 2 W)
  have M := meth_wake_2
  obtain ⟨v0, v1, _, _⟩ := val_parts hval
  have WK := Lib.hid (fun W (hb : Below w.heap.size w W) => wake_2 v src old phase fresh mail mv W ((hsl.below hb).more hb.size) (by omega) (by have : topG 2 ≤ 4398046511104 := (by decide); omega))
  generalize wakeG 2 v src old phase fresh mail = r at *
  obtain ⟨⟨ra, rl⟩, rs⟩ := r
  obtain ⟨a, l⟩ := old
  simp only at v0 v1 ⊢
  generalize ht : topG 2 = t at *
  have t1 : decide (v < 0) = false := by simp; omega
  have t2 : decide (200 ≤ v) = false := by simp; omega
  clear hp hval v0 v1 ht
  obtain ⟨A, c, rfl, hac, hcm, hA⟩ := hsl
  unfold maxLen at hcm
  have HA := Lib.hid hA; have HM := Lib.hid hm
  clear hA hm
  generalize hlen : mail.length = len at *
  have HL := Lib.hid hlen; clear hlen
  go_enter Try.func13, Try.ntmps13
  go_wp2_with (first
    | (go_at_call 30; refine (J.out _).mono ?_; rintro e w1 ⟨rfl, rfl⟩)
    | (go_at_call 31; refine (P.out _).mono ?_; rintro e w1 ⟨rfl, rfl⟩)
    | (go_at_call 32; refine (V.out _).mono ?_; rintro e w2 ⟨rfl, hb2⟩))
  have HB := Lib.hid ((below_two w _ _).trans (hb2.mono (by simp; omega)))
  have BX := Lib.hid (((Bk.new w 40 #[.int .i64 a, .int .i64 l]).alloc (.cells #[.int .i64 0, .int .i64 0] 40)).old hb2)
  have RX := Lib.hid ((cellr w (.cells #[.int .i64 a, .int .i64 l] 40) #[.int .i64 0, .int .i64 0] 40).old hb2)
  clear hb2
  go_loopw [19, 48] (fun _ i wr => ∃ k : Nat, k ≤ len ∧ i = .int .i64 k ∧ wr = w2) (fun _ i _ => len - (intOf i).toNat)
  case atStart => exact ⟨0, Nat.zero_le _, rfl, rfl⟩
  case round =>
    obtain ⟨k, hk, rfl, rfl⟩ := hrel
    by_cases hlt : k < len
    · obtain ⟨b, o, rfl, hbb, hc⟩ := HA.out (by omega)
      obtain ⟨m, hm'⟩ : ∃ m, mail[k]? = some m := ⟨_, List.getElem?_eq_getElem (by rw [HL.out]; exact hlt)⟩
      have hc0 := (HB.out.cell (p := ⟨b, o + k * 1, none⟩) hbb).trans (hc k m hm' 0 _ rfl)
      simp only [Nat.mul_one] at hc0
      obtain ⟨m0, m1⟩ := HM.out m (List.mem_of_getElem? hm')
      have t3 : decide (m < 0) = false := by simp; omega
      have t4 : decide (t < m) = false := by simp; omega
      clear hm' hc
      go_wp2_with (go_at_call 33; refine (TP.out _).mono ?_; rintro e w3 ⟨rfl, rfl⟩)
      go_roundw
      case rel => exact ⟨k + 1, by omega, by go_num, by first | rfl | trivial⟩
      case measure => simp [intOf]; omega
    · obtain rfl : k = len := by omega
      have c0 := BX.out.cell 0
      have c1 := BX.out.cell 1
      simp only [List.getElem?_toArray] at c0 c1
      go_wp2_with fail
      refine (WK.out _ HB.out).mono ?_
      rintro e w3 ⟨rfl, hb3⟩
      have rx := RX.out.old hb3
      have r0 := fun o => (rx.alloc o).cell 0
      have r1 := fun o => (rx.alloc o).cell 1
      have f0 := fun o => (rx.alloc o).froz 0
      have f1 := fun o => (rx.alloc o).froz 1
      simp only [List.getElem?_toArray] at r0 r1
      have RX3 := Lib.hid rx
      have HB3 := Lib.hid (HB.out.trans (hb3.mono HB.out.size))
      clear rx hb3 c0 c1
      go_wp2
      have RB := ((RX3.out.alloc (.cells #[.int .i64 ra, .int .i64 rl] 40)).set 0 (.int .i64 ra)).set 1 (.int .i64 rl)
      have d0 := (RB.cell 0).trans (show _ = some (Value.int .i64 ra) from rfl)
      have d1 := (RB.cell 1).trans (show _ = some (Value.int .i64 rl) from rfl)
      refine bodyPost_ret (v := .tuple #[.agg #[.int .i64 ra, .int .i64 rl], .bool rs, .int .i64 0]) ?_ rfl ⟨rfl, ((HB3.out.alloc HB3.out.size _).setCell (p := ⟨w.heap.size + 1, 0, none⟩) (by simp) _).setCell (p := ⟨w.heap.size + 1, 1, none⟩) (by simp) _⟩
      simp [results, Try.f13, go_sem, d0, d1]

set_option maxRecDepth 10000 in
set_option maxHeartbeats 1000000 in
theorem wakes_3 (v src : Int) (old : Vl) (phase : Int) (fresh : Bool) (mail : List Int) (mv : Value) (w : World) (hsl : Sl 1 encN w w.heap.size mv mail) (hp : phase = 0 ∨ (phase = 1 ∧ (3 : Int) = 3)) (hv0 : 0 ≤ v) (hv1 : v < 200)
    (hval : valB 3 old = true) (hm : ∀ m ∈ mail, 0 ≤ m ∧ m ≤ topG 3) :
    Calls Try.prog 13 #[.int .i64 3, .int .i64 v, .int .i64 src, .agg #[.int .i64 old.a, .int .i64 old.l], .int .i64 phase, .bool fresh, mv] w fun e w' =>
      e = .returned (.tuple #[.agg #[.int .i64 (wakeG 3 v src old phase fresh mail).1.a, .int .i64 (wakeG 3 v src old phase fresh mail).1.l], .bool (wakeG 3 v src old phase fresh mail).2, .int .i64 0]) ∧ Below w.heap.size w w' := by
  have J := Lib.hid (fun W => jobOf_yes 3 (by decide) W)
  rw [show jobT 3 = 112 from rfl] at J
  have P := Lib.hid (fun W => phases_yes 3 phase hp W)
  have V := Lib.hid (fun W => value_yes 3 old hval W)
  have TP := Lib.hid (fun W => top_any 3 W)
  have M := meth_wake_3
  obtain ⟨v0, v1, _, _⟩ := val_parts hval
  have WK := Lib.hid (fun W (hb : Below w.heap.size w W) => wake_3 v src old phase fresh mail mv W ((hsl.below hb).more hb.size) (by omega) (by have : topG 3 ≤ 4398046511104 := (by decide); omega) (by omega))
  generalize wakeG 3 v src old phase fresh mail = r at *
  obtain ⟨⟨ra, rl⟩, rs⟩ := r
  obtain ⟨a, l⟩ := old
  simp only at v0 v1 ⊢
  generalize ht : topG 3 = t at *
  have t1 : decide (v < 0) = false := by simp; omega
  have t2 : decide (200 ≤ v) = false := by simp; omega
  clear hp hval v0 v1 ht
  obtain ⟨A, c, rfl, hac, hcm, hA⟩ := hsl
  unfold maxLen at hcm
  have HA := Lib.hid hA; have HM := Lib.hid hm
  clear hA hm
  generalize hlen : mail.length = len at *
  have HL := Lib.hid hlen; clear hlen
  go_enter Try.func13, Try.ntmps13
  go_wp2_with (first
    | (go_at_call 30; refine (J.out _).mono ?_; rintro e w1 ⟨rfl, rfl⟩)
    | (go_at_call 31; refine (P.out _).mono ?_; rintro e w1 ⟨rfl, rfl⟩)
    | (go_at_call 32; refine (V.out _).mono ?_; rintro e w2 ⟨rfl, hb2⟩))
  have HB := Lib.hid ((below_two w _ _).trans (hb2.mono (by simp; omega)))
  have BX := Lib.hid (((Bk.new w 40 #[.int .i64 a, .int .i64 l]).alloc (.cells #[.int .i64 0, .int .i64 0] 40)).old hb2)
  have RX := Lib.hid ((cellr w (.cells #[.int .i64 a, .int .i64 l] 40) #[.int .i64 0, .int .i64 0] 40).old hb2)
  clear hb2
  go_loopw [19, 48] (fun _ i wr => ∃ k : Nat, k ≤ len ∧ i = .int .i64 k ∧ wr = w2) (fun _ i _ => len - (intOf i).toNat)
  case atStart => exact ⟨0, Nat.zero_le _, rfl, rfl⟩
  case round =>
    obtain ⟨k, hk, rfl, rfl⟩ := hrel
    by_cases hlt : k < len
    · obtain ⟨b, o, rfl, hbb, hc⟩ := HA.out (by omega)
      obtain ⟨m, hm'⟩ : ∃ m, mail[k]? = some m := ⟨_, List.getElem?_eq_getElem (by rw [HL.out]; exact hlt)⟩
      have hc0 := (HB.out.cell (p := ⟨b, o + k * 1, none⟩) hbb).trans (hc k m hm' 0 _ rfl)
      simp only [Nat.mul_one] at hc0
      obtain ⟨m0, m1⟩ := HM.out m (List.mem_of_getElem? hm')
      have t3 : decide (m < 0) = false := by simp; omega
      have t4 : decide (t < m) = false := by simp; omega
      clear hm' hc
      go_wp2_with (go_at_call 33; refine (TP.out _).mono ?_; rintro e w3 ⟨rfl, rfl⟩)
      go_roundw
      case rel => exact ⟨k + 1, by omega, by go_num, by first | rfl | trivial⟩
      case measure => simp [intOf]; omega
    · obtain rfl : k = len := by omega
      have c0 := BX.out.cell 0
      have c1 := BX.out.cell 1
      simp only [List.getElem?_toArray] at c0 c1
      go_wp2_with fail
      refine (WK.out _ HB.out).mono ?_
      rintro e w3 ⟨rfl, hb3⟩
      have rx := RX.out.old hb3
      have r0 := fun o => (rx.alloc o).cell 0
      have r1 := fun o => (rx.alloc o).cell 1
      have f0 := fun o => (rx.alloc o).froz 0
      have f1 := fun o => (rx.alloc o).froz 1
      simp only [List.getElem?_toArray] at r0 r1
      have RX3 := Lib.hid rx
      have HB3 := Lib.hid (HB.out.trans (hb3.mono HB.out.size))
      clear rx hb3 c0 c1
      go_wp2
      have RB := ((RX3.out.alloc (.cells #[.int .i64 ra, .int .i64 rl] 40)).set 0 (.int .i64 ra)).set 1 (.int .i64 rl)
      have d0 := (RB.cell 0).trans (show _ = some (Value.int .i64 ra) from rfl)
      have d1 := (RB.cell 1).trans (show _ = some (Value.int .i64 rl) from rfl)
      refine bodyPost_ret (v := .tuple #[.agg #[.int .i64 ra, .int .i64 rl], .bool rs, .int .i64 0]) ?_ rfl ⟨rfl, ((HB3.out.alloc HB3.out.size _).setCell (p := ⟨w.heap.size + 1, 0, none⟩) (by simp) _).setCell (p := ⟨w.heap.size + 1, 1, none⟩) (by simp) _⟩
      simp [results, Try.f13, go_sem, d0, d1]

theorem wake_any (kind v src : Int) (old : Vl) (phase : Int) (fresh : Bool) (mail : List Int) (mv : Value) (w : World) (hsl : Sl 1 encN w w.heap.size mv mail) (hk : kind = 1 ∨ kind = 2 ∨ kind = 3) (hp : phase = 0 ∨ (phase = 1 ∧ kind = 3)) (hv0 : 0 ≤ v) (hv1 : v < 200)
    (hval : valB kind old = true) (hm : ∀ m ∈ mail, 0 ≤ m ∧ m ≤ topG kind) :
    Calls Try.prog 13 #[.int .i64 kind, .int .i64 v, .int .i64 src, .agg #[.int .i64 old.a, .int .i64 old.l], .int .i64 phase, .bool fresh, mv] w fun e w' =>
      e = .returned (.tuple #[.agg #[.int .i64 (wakeG kind v src old phase fresh mail).1.a, .int .i64 (wakeG kind v src old phase fresh mail).1.l], .bool (wakeG kind v src old phase fresh mail).2, .int .i64 0]) ∧ Below w.heap.size w w' := by
  rcases hk with rfl | rfl | rfl
  · exact wakes_1 v src old phase fresh mail mv w hsl hp hv0 hv1 hval hm
  · exact wakes_2 v src old phase fresh mail mv w hsl hp hv0 hv1 hval hm
  · exact wakes_3 v src old phase fresh mail mv w hsl hp hv0 hv1 hval hm
end Go.Proofs.Ytbholafggbdieaa
