/- prog.Wake. -/
import Derived.Test.YtbholafggbdieaaVertex
namespace Go.Proofs.Ytbholafggbdieaa
open Go.RowKit

theorem below_three (w : World) (o o' o'' : Obj) : Below w.heap.size w (((w.alloc o).alloc o').alloc o'') := (below_two w o o').alloc (below_two w o o').size _
theorem bk3_2 (w : World) (o o'' : Obj) (cs : Array Value) (t : TypeId) : Bk (((w.alloc o).alloc (.cells cs t)).alloc o'') (w.heap.size + 1) t cs := by
  have := (Bk.new (w.alloc o) t cs).alloc o''; rw [World.size_alloc] at this; exact this
theorem bk3_3 (w : World) (o o' : Obj) (cs : Array Value) (t : TypeId) : Bk (((w.alloc o).alloc o').alloc (.cells cs t)) (w.heap.size + 1 + 1) t cs := by
  have := Bk.new ((w.alloc o).alloc o') t cs; rw [World.size_alloc, World.size_alloc] at this; exact this

set_option maxRecDepth 10000 in
set_option maxHeartbeats 1000000 in
theorem wake_1 (v src : Int) (old : Vl) (phase : Int) (fresh : Bool) (mail : List Int) (mv : Value) (w : World) (hv : Sl 1 encN w w.heap.size mv mail) (h0 : -9223372036854775808 ≤ old.a) (h1 : old.a ≤ 9223372036854775807) :
    Calls Try.prog 113 #[.agg #[], .int .i64 v, .int .i64 src, .agg #[.int .i64 old.a, .int .i64 old.l], .int .i64 phase, .bool fresh, mv] w fun e w' =>
      e = .returned (.tuple #[.agg #[.int .i64 (wakeG 1 v src old phase fresh mail).1.a, .int .i64 (wakeG 1 v src old phase fresh mail).1.l], .bool (wakeG 1 v src old phase fresh mail).2]) ∧ Below w.heap.size w w' := by
  cases fresh
  · skip
    have LO := Lib.hid (fun W (hb : Below w.heap.size w W) => lower_any old mail mv W ((hv.below hb).more hb.size) h0 h1)
    have e : wakeG 1 v src old phase false mail = lowG old mail := by simp [wakeG]
    rw [e]
    clear hv e
    generalize lowG old mail = p at *
    obtain ⟨⟨pa, pl⟩, ps⟩ := p
    obtain ⟨a, l⟩ := old
    go_enter Try.func113, Try.ntmps113
    go_wp2_with fail
    refine (LO.out _ (below_three _ _ _ _)).mono ?_
    rintro e w1 ⟨rfl, hb1⟩
    have rb := (bk3_3 w (.cells #[] 109) (.cells #[.int .i64 a, .int .i64 l] 40) #[.int .i64 0, .int .i64 0] 40).old hb1
    have HB := Lib.hid ((below_three w (.cells #[] 109) (.cells #[.int .i64 a, .int .i64 l] 40) (.cells #[.int .i64 0, .int .i64 0] 40)).trans (hb1.mono (by simp; omega)))
    have c0 := rb.cell 0
    have c1 := rb.cell 1
    have f0 := rb.froz 0
    have f1 := rb.froz 1
    simp only [List.getElem?_toArray] at c0 c1
    have RB := Lib.hid ((rb.set 0 (.int .i64 pa)).set 1 (.int .i64 pl))
    clear hb1 rb
    go_wp2
    have d0 := (RB.out.cell 0).trans (show _ = some (Value.int .i64 pa) from rfl)
    have d1 := (RB.out.cell 1).trans (show _ = some (Value.int .i64 pl) from rfl)
    refine bodyPost_ret (v := .tuple #[.agg #[.int .i64 pa, .int .i64 pl], .bool ps]) ?_ rfl ⟨rfl, (HB.out.setCell (p := ⟨w.heap.size + 1 + 1, 0, none⟩) (by simp; omega) _).setCell (p := ⟨w.heap.size + 1 + 1, 1, none⟩) (by simp; omega) _⟩
    simp [results, Try.f113, go_sem, d0, d1]
  · clear hv h0 h1
    by_cases hs : v = src
    · subst hs
      have E : Hid (wakeG 1 v v old phase true mail = (⟨0, -1⟩, true)) := by unfold Hid; simp [wakeG]
      go_enter Try.func113, Try.ntmps113
      go_wp2
      have RB := (bk3_3 w (.cells #[] 109) (.cells #[.int .i64 old.a, .int .i64 old.l] 40) #[.int .i64 0, .int .i64 (-1)] 40).alloc (.cells #[.int .i64 0, .int .i64 (-1)] 40)
      have d0 := (RB.cell 0).trans (show _ = some (Value.int .i64 0) from rfl)
      have d1 := (RB.cell 1).trans (show _ = some (Value.int .i64 (-1)) from rfl)
      refine bodyPost_ret (v := .tuple #[.agg #[.int .i64 0, .int .i64 (-1)], .bool true]) ?_ rfl ⟨by rw [E.out], (below_three _ _ _ _).alloc (below_three _ _ _ _).size _⟩
      simp [results, Try.f113, go_sem, d0, d1]
    · have E : Hid (wakeG 1 v src old phase true mail = (⟨-1, -1⟩, false)) := by unfold Hid; simp [wakeG, hs]
      have t1 : (v == src) = false := by simpa using hs
      go_enter Try.func113, Try.ntmps113
      go_wp2
      have RB := (bk3_3 w (.cells #[] 109) (.cells #[.int .i64 old.a, .int .i64 old.l] 40) #[.int .i64 (-1), .int .i64 (-1)] 40).alloc (.cells #[.int .i64 (-1), .int .i64 (-1)] 40)
      have d0 := (RB.cell 0).trans (show _ = some (Value.int .i64 (-1)) from rfl)
      have d1 := (RB.cell 1).trans (show _ = some (Value.int .i64 (-1)) from rfl)
      refine bodyPost_ret (v := .tuple #[.agg #[.int .i64 (-1), .int .i64 (-1)], .bool false]) ?_ rfl ⟨by rw [E.out], (below_three _ _ _ _).alloc (below_three _ _ _ _).size _⟩
      simp [results, Try.f113, go_sem, d0, d1]

set_option maxRecDepth 10000 in
set_option maxHeartbeats 1000000 in
theorem wake_2 (v src : Int) (old : Vl) (phase : Int) (fresh : Bool) (mail : List Int) (mv : Value) (w : World) (hv : Sl 1 encN w w.heap.size mv mail) (h0 : -9223372036854775808 ≤ old.a) (h1 : old.a ≤ 9223372036854775807) :
    Calls Try.prog 117 #[.agg #[], .int .i64 v, .int .i64 src, .agg #[.int .i64 old.a, .int .i64 old.l], .int .i64 phase, .bool fresh, mv] w fun e w' =>
      e = .returned (.tuple #[.agg #[.int .i64 (wakeG 2 v src old phase fresh mail).1.a, .int .i64 (wakeG 2 v src old phase fresh mail).1.l], .bool (wakeG 2 v src old phase fresh mail).2]) ∧ Below w.heap.size w w' := by
  cases fresh
  · skip
    have LO := Lib.hid (fun W (hb : Below w.heap.size w W) => lower_any old mail mv W ((hv.below hb).more hb.size) h0 h1)
    have e : wakeG 2 v src old phase false mail = lowG old mail := by simp [wakeG]
    rw [e]
    clear hv e
    generalize lowG old mail = p at *
    obtain ⟨⟨pa, pl⟩, ps⟩ := p
    obtain ⟨a, l⟩ := old
    go_enter Try.func117, Try.ntmps117
    go_wp2_with fail
    refine (LO.out _ (below_three _ _ _ _)).mono ?_
    rintro e w1 ⟨rfl, hb1⟩
    have rb := (bk3_3 w (.cells #[] 110) (.cells #[.int .i64 a, .int .i64 l] 40) #[.int .i64 0, .int .i64 0] 40).old hb1
    have HB := Lib.hid ((below_three w (.cells #[] 110) (.cells #[.int .i64 a, .int .i64 l] 40) (.cells #[.int .i64 0, .int .i64 0] 40)).trans (hb1.mono (by simp; omega)))
    have c0 := rb.cell 0
    have c1 := rb.cell 1
    have f0 := rb.froz 0
    have f1 := rb.froz 1
    simp only [List.getElem?_toArray] at c0 c1
    have RB := Lib.hid ((rb.set 0 (.int .i64 pa)).set 1 (.int .i64 pl))
    clear hb1 rb
    go_wp2
    have d0 := (RB.out.cell 0).trans (show _ = some (Value.int .i64 pa) from rfl)
    have d1 := (RB.out.cell 1).trans (show _ = some (Value.int .i64 pl) from rfl)
    refine bodyPost_ret (v := .tuple #[.agg #[.int .i64 pa, .int .i64 pl], .bool ps]) ?_ rfl ⟨rfl, (HB.out.setCell (p := ⟨w.heap.size + 1 + 1, 0, none⟩) (by simp; omega) _).setCell (p := ⟨w.heap.size + 1 + 1, 1, none⟩) (by simp; omega) _⟩
    simp [results, Try.f117, go_sem, d0, d1]
  · clear hv h0 h1
    · have E : Hid (wakeG 2 v src old phase true mail = (⟨v, -1⟩, true)) := by unfold Hid; simp [wakeG]
      go_enter Try.func117, Try.ntmps117
      go_wp2
      have RB := bk3_3 w (.cells #[] 110) (.cells #[.int .i64 old.a, .int .i64 old.l] 40) #[.int .i64 v, .int .i64 (-1)] 40
      have d0 := (RB.cell 0).trans (show _ = some (Value.int .i64 v) from rfl)
      have d1 := (RB.cell 1).trans (show _ = some (Value.int .i64 (-1)) from rfl)
      refine bodyPost_ret (v := .tuple #[.agg #[.int .i64 v, .int .i64 (-1)], .bool true]) ?_ rfl ⟨by rw [E.out], below_three _ _ _ _⟩
      simp [results, Try.f117, go_sem, d0, d1]

set_option maxRecDepth 10000 in
set_option maxHeartbeats 1000000 in
theorem wake_3 (v src : Int) (old : Vl) (phase : Int) (fresh : Bool) (mail : List Int) (mv : Value) (w : World) (hv : Sl 1 encN w w.heap.size mv mail) (h0 : -9223372036854775808 ≤ old.a) (h1 : old.a ≤ 9223372036854775807) (hp : phase = 0 ∨ phase = 1) :
    Calls Try.prog 119 #[.agg #[], .int .i64 v, .int .i64 src, .agg #[.int .i64 old.a, .int .i64 old.l], .int .i64 phase, .bool fresh, mv] w fun e w' =>
      e = .returned (.tuple #[.agg #[.int .i64 (wakeG 3 v src old phase fresh mail).1.a, .int .i64 (wakeG 3 v src old phase fresh mail).1.l], .bool (wakeG 3 v src old phase fresh mail).2]) ∧ Below w.heap.size w w' := by
  by_cases hl : old.l = -1
  · rcases hp with rfl | rfl
    · cases fresh
      · have e : wakeG 3 v src old 0 false mail = lowG old mail := by simp [wakeG, hl]
        have LO := Lib.hid (fun W (hb : Below w.heap.size w W) => lower_any old mail mv W ((hv.below hb).more hb.size) h0 h1)
        rw [e]
        clear hv e
        generalize lowG old mail = p at *
        obtain ⟨⟨pa, pl⟩, ps⟩ := p
        obtain ⟨a, l⟩ := old
        simp only at hl
        subst hl
        go_enter Try.func119, Try.ntmps119
        go_wp2_with fail
        refine (LO.out _ (below_three _ _ _ _)).mono ?_
        rintro e w1 ⟨rfl, hb1⟩
        have rb := (bk3_3 w (.cells #[] 112) (.cells #[.int .i64 a, .int .i64 (-1)] 40) #[.int .i64 0, .int .i64 0] 40).old hb1
        have HB := Lib.hid ((below_three w (.cells #[] 112) (.cells #[.int .i64 a, .int .i64 (-1)] 40) (.cells #[.int .i64 0, .int .i64 0] 40)).trans (hb1.mono (by simp; omega)))
        have c0 := rb.cell 0
        have c1 := rb.cell 1
        have f0 := rb.froz 0
        have f1 := rb.froz 1
        simp only [List.getElem?_toArray] at c0 c1
        have RB := Lib.hid ((rb.set 0 (.int .i64 pa)).set 1 (.int .i64 pl))
        clear hb1 rb
        go_wp2
        have d0 := (RB.out.cell 0).trans (show _ = some (Value.int .i64 pa) from rfl)
        have d1 := (RB.out.cell 1).trans (show _ = some (Value.int .i64 pl) from rfl)
        refine bodyPost_ret (v := .tuple #[.agg #[.int .i64 pa, .int .i64 pl], .bool ps]) ?_ rfl ⟨rfl, (HB.out.setCell (p := ⟨w.heap.size + 1 + 1, 0, none⟩) (by simp; omega) _).setCell (p := ⟨w.heap.size + 1 + 1, 1, none⟩) (by simp; omega) _⟩
        simp [results, Try.f119, go_sem, d0, d1]
      · have E : Hid (wakeG 3 v src old 0 true mail = (⟨v, -1⟩, true)) := by unfold Hid; simp [wakeG, hl]
        clear hv h0 h1
        obtain ⟨a, l⟩ := old
        simp only at hl
        subst hl
        go_enter Try.func119, Try.ntmps119
        go_wp2
        have RB := bk3_3 w (.cells #[] 112) (.cells #[.int .i64 a, .int .i64 (-1)] 40) #[.int .i64 v, .int .i64 (-1)] 40
        have d0 := (RB.cell 0).trans (show _ = some (Value.int .i64 v) from rfl)
        have d1 := (RB.cell 1).trans (show _ = some (Value.int .i64 (-1)) from rfl)
        refine bodyPost_ret (v := .tuple #[.agg #[.int .i64 v, .int .i64 (-1)], .bool true]) ?_ rfl ⟨by rw [E.out], below_three _ _ _ _⟩
        simp [results, Try.f119, go_sem, d0, d1]
    · cases fresh
      · obtain ⟨A, c, rfl, hac, hcm, hA⟩ := hv
        unfold maxLen at hcm
        have HA := Lib.hid hA; clear hA h0 h1
        obtain ⟨a, l⟩ := old
        simp only at hl
        subst hl
        have E1 : Hid (mail.any (fun m => decide (m = a)) = true → wakeG 3 v src ⟨a, -1⟩ 1 false mail = (⟨a, a⟩, true)) := fun h => by simp only [wakeG]; simp [h]
        have E0 : Hid (mail.any (fun m => decide (m = a)) = false → wakeG 3 v src ⟨a, -1⟩ 1 false mail = (⟨a, -1⟩, false)) := fun h => by simp only [wakeG]; simp [h]
        generalize hlen : mail.length = len at *
        have HL := Lib.hid hlen; clear hlen
        go_enter Try.func119, Try.ntmps119
        go_wp2
        go_loopw [17, 55] (fun _ i wr => ∃ k : Nat, k ≤ len ∧ i = .int .i64 k ∧ Hid ((mail.take k).any (fun m => decide (m = a)) = false) ∧ Bk wr (w.heap.size + 1) 40 #[.int .i64 a, .int .i64 (-1)] ∧ Bk wr (w.heap.size + 1 + 1) 40 #[.int .i64 0, .int .i64 0] ∧ Below w.heap.size w wr) (fun _ i _ => len - (intOf i).toNat)
        case atStart => exact ⟨0, Nat.zero_le _, rfl, by simp [Hid], bk3_2 _ _ _ _ _, bk3_3 _ _ _ _ _, below_three _ _ _ _⟩
        case round =>
          obtain ⟨k, hk, rfl, hany, hb, hr, hbel⟩ := hrel
          have c0 := hb.cell 0
          have c1 := hb.cell 1
          have f1 := hb.froz 1
          have r0 := hr.cell 0
          have r1 := hr.cell 1
          have fr0 := hr.froz 0
          have fr1 := hr.froz 1
          simp only [List.getElem?_toArray] at c0 c1 r0 r1
          by_cases hlt : k < len
          · obtain ⟨b, o, rfl, hbb, hc⟩ := HA.out (by omega)
            obtain ⟨m, hm'⟩ : ∃ m, mail[k]? = some m := ⟨_, List.getElem?_eq_getElem (by rw [HL.out]; exact hlt)⟩
            have hc0 := (hbel.cell (p := ⟨b, o + k * 1, none⟩) hbb).trans (hc k m hm' 0 _ rfl)
            simp only [Nat.mul_one] at hc0
            have HM := Lib.hid hm'
            clear hm' hc
            by_cases hma : m = a
            · subst hma
              have E : Hid (wakeG 3 v src ⟨m, -1⟩ 1 false mail = (⟨m, m⟩, true)) := E1.out (by rw [List.any_eq_true]; exact ⟨m, List.mem_of_getElem? HM.out, by simp⟩)
              have HR := Lib.hid hr
              clear hb hr
              go_wp2
              have RB := ((HR.out.far (p := ⟨w.heap.size + 1, 1, none⟩) (by simp) (.int .i64 m)).set 0 (.int .i64 m)).set 1 (.int .i64 m)
              have d0 := (RB.cell 0).trans (show _ = some (Value.int .i64 m) from rfl)
              have d1 := (RB.cell 1).trans (show _ = some (Value.int .i64 m) from rfl)
              refine bodyPost_ret (v := .tuple #[.agg #[.int .i64 m, .int .i64 m], .bool true]) ?_ rfl ⟨by rw [E.out], ((hbel.setCell (p := ⟨w.heap.size + 1, 1, none⟩) (by simp) _).setCell (p := ⟨w.heap.size + 1 + 1, 0, none⟩) (by simp; omega) _).setCell (p := ⟨w.heap.size + 1 + 1, 1, none⟩) (by simp; omega) _⟩
              simp [results, Try.f119, go_sem, d0, d1]
            · have t1 : (m == a) = false := by simpa using hma
              have NX : Hid ((mail.take (k + 1)).any (fun m => decide (m = a)) = false) := by
                unfold Hid; rw [List.take_add_one, HM.out, List.any_append, hany.out]; simp [hma]
              have HB := Lib.hid hb; have HR := Lib.hid hr
              clear hb hr hany
              go_wp2
              go_roundw
              case rel => exact ⟨k + 1, by omega, by go_num, NX.out, HB.out, HR.out, hbel⟩
              case measure => simp [intOf]; omega
          · obtain rfl : k = len := by omega
            have E : Hid (wakeG 3 v src ⟨a, -1⟩ 1 false mail = (⟨a, -1⟩, false)) := E0.out (by have := hany.out; rwa [List.take_of_length_le (by rw [HL.out]; exact Nat.le_refl _)] at this)
            have HR := Lib.hid hr
            clear hb hr hany
            go_wp2
            have RB := (HR.out.set 0 (.int .i64 a)).set 1 (.int .i64 (-1))
            have d0 := (RB.cell 0).trans (show _ = some (Value.int .i64 a) from rfl)
            have d1 := (RB.cell 1).trans (show _ = some (Value.int .i64 (-1)) from rfl)
            refine bodyPost_ret (v := .tuple #[.agg #[.int .i64 a, .int .i64 (-1)], .bool false]) ?_ rfl ⟨by rw [E.out], (hbel.setCell (p := ⟨w.heap.size + 1 + 1, 0, none⟩) (by simp; omega) _).setCell (p := ⟨w.heap.size + 1 + 1, 1, none⟩) (by simp; omega) _⟩
            simp [results, Try.f119, go_sem, d0, d1]
      · by_cases hav : old.a = v
        · have E : Hid (wakeG 3 v src old 1 true mail = (⟨old.a, old.a⟩, true)) := by unfold Hid; simp [wakeG, hl, hav]
          clear hv h0 h1
          obtain ⟨a, l⟩ := old
          simp only at hl hav
          subst hl hav
          go_enter Try.func119, Try.ntmps119
          go_wp2
          have RB := bk3_3 w (.cells #[] 112) (.cells #[.int .i64 a, .int .i64 a] 40) #[.int .i64 a, .int .i64 a] 40
          have d0 := (RB.cell 0).trans (show _ = some (Value.int .i64 a) from rfl)
          have d1 := (RB.cell 1).trans (show _ = some (Value.int .i64 a) from rfl)
          refine bodyPost_ret (v := .tuple #[.agg #[.int .i64 a, .int .i64 a], .bool true]) ?_ rfl ⟨by rw [E.out], below_three _ _ _ _⟩
          simp [results, Try.f119, go_sem, d0, d1]
        · have E : Hid (wakeG 3 v src old 1 true mail = (old, false)) := by unfold Hid; simp [wakeG, hl, hav]
          clear hv h0 h1
          obtain ⟨a, l⟩ := old
          simp only at hl hav
          subst hl
          have t1 : (a == v) = false := by simpa using hav
          go_enter Try.func119, Try.ntmps119
          go_wp2
          have RB := bk3_3 w (.cells #[] 112) (.cells #[.int .i64 a, .int .i64 (-1)] 40) #[.int .i64 a, .int .i64 (-1)] 40
          have d0 := (RB.cell 0).trans (show _ = some (Value.int .i64 a) from rfl)
          have d1 := (RB.cell 1).trans (show _ = some (Value.int .i64 (-1)) from rfl)
          refine bodyPost_ret (v := .tuple #[.agg #[.int .i64 a, .int .i64 (-1)], .bool false]) ?_ rfl ⟨by rw [E.out], below_three _ _ _ _⟩
          simp [results, Try.f119, go_sem, d0, d1]
  · have E : Hid (wakeG 3 v src old phase fresh mail = (old, false)) := by unfold Hid; simp [wakeG, hl]
    clear hv h0 h1
    obtain ⟨a, l⟩ := old
    simp only at hl
    have t1 : (l != -1) = true := bne_iff_ne.2 hl
    go_enter Try.func119, Try.ntmps119
    go_wp2
    have RB := bk3_3 w (.cells #[] 112) (.cells #[.int .i64 a, .int .i64 l] 40) #[.int .i64 a, .int .i64 l] 40
    have d0 := (RB.cell 0).trans (show _ = some (Value.int .i64 a) from rfl)
    have d1 := (RB.cell 1).trans (show _ = some (Value.int .i64 l) from rfl)
    refine bodyPost_ret (v := .tuple #[.agg #[.int .i64 a, .int .i64 l], .bool false]) ?_ rfl ⟨by rw [E.out], below_three _ _ _ _⟩
    simp [results, Try.f119, go_sem, d0, d1]
end Go.Proofs.Ytbholafggbdieaa
