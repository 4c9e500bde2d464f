/- The two laws of sheets: their walks. -/
import Derived.Test.YteehgoaibblpfaaDoorSheetLaw
import Derived.Deep.QuietTactic
import Derived.BigQuiet
namespace Go.Proofs.YteehgoaibblpfaaDoor
open Go.RowKit

theorem toList_eq (s : ByteArray) : s.toList = s.data.toList := by
  obtain ⟨⟨l⟩⟩ := s; simp

theorem read_size (s : ByteArray) (hs : 20000 < s.size) (hm : s.size ≤ 9223372036854775807) (w : World) :
    Calls Tryd.prog 9 #[.string s] w fun e w' => e = .returned (.tuple #[.agg #[.int .i64 0, .slice none 0 0], .int .i64 1]) ∧ Below w.heap.size w w' := by
  have hs2 : decide ((20000 : Int) < (s.size : Int)) = true := by simp; omega
  refine (callsIn_wide (n := 10)).1 ?_
  refine callsIn_of_wp_marks Tryd.func9 rfl trivial ?_ rfl
  simp only [Tryd.ntmps9, List.size_toArray, List.length_cons, List.length_nil, Nat.reduceAdd, Nat.reduceSub, Array.replicate_succ, Array.replicate_zero, List.push_toArray, List.append_toArray, List.nil_append, List.cons_append]
  gi_wp2
  refine ⟨.tuple #[.agg #[.int .i64 0, .slice none 0 0], .int .i64 1], ?_, rfl, Below.of_alloc _ _⟩
  have d := Bk.new w 24 #[.int .i64 0, .slice none 0 0]
  have d0 := d.cell 0
  have d1 := d.cell 1
  simp only [List.getElem?_toArray] at d0 d1
  simp [results, Tryd.f9, go_sem, d0, d1]

set_option maxHeartbeats 1000000 in
theorem sheetFixed_any (s : ByteArray) (hm : s.size ≤ 9223372036854775807) (w : World) (hE : Env w) :
    Calls Tryd.prog 4 #[.string s] w fun e w' => e = .returned (.bool true) ∧ Below w.heap.size w w' := by
  by_cases hs : 20000 < s.size
  · go_enter Tryd.func4, Tryd.ntmps4
    go_wp2_with (go_at_call 9; refine (read_size s hs hm _).mono ?_; rintro e w1 ⟨rfl, hb1⟩)
    go_ret
    exact ⟨rfl, hb1.alloc hb1.size _⟩
  · have RD := Lib.hid (read_body s (by omega) w hE)
    cases hok : okRead s
    · have HOK := Lib.hid hok; clear hok
      go_enter Tryd.func4, Tryd.ntmps4
      go_wp2_with (go_at_call 9; refine RD.out.mono ?_; rintro e w1 ⟨hr, hb1⟩; rw [if_neg (by rw [HOK.out]; simp)] at hr; subst hr)
      go_ret
      exact ⟨rfl, hb1.alloc hb1.size _⟩
    · have HOK := Lib.hid hok
      unfold okRead at hok
      simp only [Bool.and_eq_true, beq_iff_eq] at hok
      obtain ⟨hck, hst⟩ := hok
      generalize hG : graphL (linesL s.data.toList) = G at *
      have HG := Lib.hid hG; clear hG
      have HCK := Lib.hid hck; have HST := Lib.hid hst; clear hck hst
      go_enter Tryd.func4, Tryd.ntmps4
      go_wp2_with (go_at_call 9; refine RD.out.mono ?_; rintro e w1 ⟨hr, hb1⟩; rw [if_pos HOK.out, HG.out] at hr; obtain ⟨v, rfl, hsl⟩ := hr; have SH := Lib.hid (fun W => show_in G.n G.es v w1 W hsl HCK.out (hE.keep hb1).pow); obtain ⟨A, c, rfl, _⟩ := hsl)
      have hst : (sheetT G.n G.es == s.toList) = true := by simp [HST.out]
      refine (SH.out _ (Below.of_alloc _ _)).mono ?_
      rintro e w2 ⟨rfl, hb2⟩
      go_wp2_with fail
      go_ret
      exact ⟨rfl, (hb1.alloc hb1.size _).trans (hb2.mono (by have := hb1.size; simp; omega))⟩

set_option maxHeartbeats 1000000 in
theorem sameGraph_same (n : Int) (es : List Ed) (va vb : Value) (w : World) (ha : Sl 3 encE w w.heap.size va es) (hb : Sl 3 encE w w.heap.size vb es) (hl : es.length ≤ 600) :
    Calls Tryd.prog 10 #[.agg #[.int .i64 n, va], .agg #[.int .i64 n, vb]] w fun e w' => e = .returned (.bool true) ∧ Below w.heap.size w w' := by
  obtain ⟨A, c, rfl, hac, _, hA⟩ := ha
  obtain ⟨B, d, rfl, hbd, _, hB⟩ := hb
  generalize hlen : es.length = len at *
  have HL := Lib.hid hlen; have HA := Lib.hid hA; have HB := Lib.hid hB
  clear hlen hA hB
  go_enter Tryd.func10, Tryd.ntmps10
  go_wp2
  go_loopw [5] (fun i wr => ∃ k : Nat, k ≤ len ∧ i = .int .i64 k ∧ Bk wr w.heap.size 24 #[.int .i64 n, .slice A len c] ∧ Bk wr (w.heap.size + 1) 24 #[.int .i64 n, .slice B len d] ∧ Below w.heap.size w wr) (fun i wr => len - (intOf i).toNat)
  case atStart =>
    refine ⟨0, Nat.zero_le _, rfl, (Bk.new _ _ _).alloc _, by simpa using Bk.new (w.alloc (.cells #[.int .i64 n, .slice A len c] 24)) 24 #[.int .i64 n, .slice B len d], (Below.of_alloc _ _).alloc (by simp) _⟩
  case round =>
    obtain ⟨k, hk, rfl, h1, h2, hbel⟩ := hrel
    have c1 := h1.cell 1
    have c2 := h2.cell 1
    simp only [List.getElem?_toArray] at c1 c2
    by_cases hlt : k < len
    · obtain ⟨b, o, rfl, hbb, hc⟩ := HA.out (by omega)
      obtain ⟨b', o', rfl, hbb', hc'⟩ := HB.out (by omega)
      obtain ⟨x, hx⟩ : ∃ x, es[k]? = some x := ⟨_, List.getElem?_eq_getElem (by rw [HL.out]; exact hlt)⟩
      have p0 := (hbel.cell (p := ⟨b, o + k * 3, none⟩) hbb).trans (hc k x hx 0 _ rfl)
      have p1 := (hbel.cell (p := ⟨b, o + k * 3 + 1, none⟩) hbb).trans (hc k x hx 1 _ rfl)
      have p2 := (hbel.cell (p := ⟨b, o + k * 3 + 2, none⟩) hbb).trans (hc k x hx 2 _ rfl)
      have q0 := (hbel.cell (p := ⟨b', o' + k * 3, none⟩) hbb').trans (hc' k x hx 0 _ rfl)
      have q1 := (hbel.cell (p := ⟨b', o' + k * 3 + 1, none⟩) hbb').trans (hc' k x hx 1 _ rfl)
      have q2 := (hbel.cell (p := ⟨b', o' + k * 3 + 2, none⟩) hbb').trans (hc' k x hx 2 _ rfl)
      clear hx hc hc'
      go_wp2
      go_quiet (fail)
      go_wp2
      go_roundw
      case rel => exact ⟨k + 1, by omega, by go_num, h1.drewN nq, h2.drewN nq, ⟨hbel.os, hbel.tape, hbel.output, hbel.size, hbel.block⟩⟩
      case measure => simp [intOf]; omega
    · obtain rfl : k = len := by omega
      go_wp2
      go_ret
      exact ⟨rfl, hbel⟩

theorem sheet_ne (n : Int) (es : List Ed) : (sheetT n es).isEmpty = false := by
  unfold sheetT lineT; simp

set_option maxHeartbeats 1000000 in
theorem sheetBack_any (n : Int) (es : List Ed) (v : Value) (w : World) (hv : Sl 3 encE w w.heap.size v es) (hE : Env w) :
    Calls Tryd.prog 3 #[.agg #[.int .i64 n, v]] w fun e w' => e = .returned (.bool true) ∧ Below w.heap.size w w' := by
  have hv0 := hv
  obtain ⟨A, c, rfl, hac, hcm, hA⟩ := hv
  have HV := Lib.hid hv0; clear hv0 hA
  have CK := Lib.hid (fun W => check_in n es _ w W HV.out)
  cases hck : (checkG n es == 0)
  · have hck2 : (checkG n es != 0) = true := by simpa using hck
    have SB := Lib.hid (fun W (hb : Below w.heap.size w W) => show_bad n es _ W ((HV.out.below hb).more hb.size) hck)
    go_enter Tryd.func3, Tryd.ntmps3
    go_wp2_with fail
    refine (SB.out _ (Below.of_alloc _ _)).mono ?_
    rintro e w1 ⟨rfl, hb1⟩
    have hb01 : Below w.heap.size w w1 := (Below.of_alloc _ _).trans (hb1.mono (by simp))
    have bx := (Bk.new w _ _).old hb1
    have c0 := bx.cell 0
    have c1 := bx.cell 1
    simp only [List.getElem?_toArray] at c0 c1
    go_wp2_with fail
    refine (CK.out _ hb01).mono ?_
    rintro e w2 ⟨rfl, hb2⟩
    have hb02 := hb01.trans (hb2.mono hb01.size)
    clear c0 c1
    go_wp2
    go_ret
    exact ⟨rfl, hb02⟩
  · have hc0 : checkG n es = 0 := by simpa using hck
    have hs : (⟨(sheetT n es).toArray⟩ : ByteArray).data.toList = sheetT n es := rfl
    obtain ⟨hok, hg⟩ := ok_sheet hc0 ⟨(sheetT n es).toArray⟩ hs (toList_eq _)
    have hsz : (⟨(sheetT n es).toArray⟩ : ByteArray).size ≤ 20000 := sheet_short hc0
    have SO := Lib.hid (fun W => show_in n es _ w W HV.out hc0 hE.pow)
    have RD := Lib.hid (fun W (hb : Below w.heap.size w W) => read_body ⟨(sheetT n es).toArray⟩ hsz W (hE.keep hb))
    have hl := (checkG_zero hc0).2.2.1
    have HOK := Lib.hid hok; have HG := Lib.hid hg; have HC0 := Lib.hid hc0
    have hne : (sheetT n es).isEmpty = false := sheet_ne n es
    clear hok hg hc0 hck hs hsz hE
    go_enter Tryd.func3, Tryd.ntmps3
    go_wp2_with fail
    refine (SO.out _ (Below.of_alloc _ _)).mono ?_
    rintro e w1 ⟨rfl, hb1⟩
    have hb01 : Below w.heap.size w w1 := (Below.of_alloc _ _).trans (hb1.mono (by simp))
    have bx := (Bk.new w _ _).old hb1
    have c0 := bx.cell 0
    have c1 := bx.cell 1
    simp only [List.getElem?_toArray] at c0 c1
    go_wp2_with fail
    refine (CK.out _ hb01).mono ?_
    rintro e w2 ⟨rfl, hb2⟩
    have hb02 := hb01.trans (hb2.mono hb01.size)
    have bx2 := bx.old hb2
    rw [HC0.out]
    clear c0 c1 hb2 bx hb1
    go_wp2_with fail
    refine (RD.out _ hb02).mono ?_
    rintro e w3 ⟨hr, hb3⟩
    rw [if_pos HOK.out, HG.out] at hr
    obtain ⟨v', rfl, hsl⟩ := hr
    have hsl0 := hsl
    obtain ⟨A', c', rfl, _⟩ := hsl
    have hb03 := hb02.trans (hb3.mono hb02.size)
    have bx3 := bx2.old hb3
    have d0 := fun o => (bx3.alloc o).cell 0
    have d1 := fun o => (bx3.alloc o).cell 1
    simp only [List.getElem?_toArray] at d0 d1
    have SG := Lib.hid (fun W (hb : Below w3.heap.size w3 W) => sameGraph_same n es _ _ W ((hsl0.below hb).more hb.size) ((HV.out.below (hb03.trans (hb.mono hb03.size))).more (hb03.trans (hb.mono hb03.size)).size) hl)
    clear hsl0 bx2 hb3
    go_wp2_with fail
    refine (SG.out _ (Below.of_alloc _ _)).mono ?_
    rintro e w4 ⟨rfl, hb4⟩
    clear d0 d1
    go_wp2
    go_ret
    exact ⟨rfl, (hb03.alloc hb03.size _).trans (hb4.mono (by have := hb03.size; simp; omega))⟩

end Go.Proofs.YteehgoaibblpfaaDoor
