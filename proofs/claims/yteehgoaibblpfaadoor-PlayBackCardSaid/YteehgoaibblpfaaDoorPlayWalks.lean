/- The two laws of moves: their walks. -/
import Derived.Test.YteehgoaibblpfaaDoorPlayLaw
import Derived.Deep.QuietTactic
import Derived.BigQuiet
import Derived.Sort.AtCall
namespace Go.Proofs.YteehgoaibblpfaaDoor
open Go.RowKit

theorem pread_size (s : ByteArray) (hs : 5000000 < s.size) (hm : s.size ≤ 9223372036854775807) (w : World) :
    Calls Tryd.prog 13 #[.string s] w fun e w' => e = .returned (.tuple #[.slice none 0 0, .int .i64 1]) ∧ Below w.heap.size w w' := by
  have hs2 : decide ((5000000 : Int) < (s.size : Int)) = true := by simp; omega
  refine (callsIn_wide (n := 10)).1 ?_
  refine callsIn_of_wp_marks Tryd.func13 rfl trivial ?_ rfl
  simp only [Tryd.ntmps13, List.size_toArray, List.length_cons, List.length_nil, Nat.reduceAdd, Nat.reduceSub, Array.replicate_succ, Array.replicate_zero, List.push_toArray, List.append_toArray, List.nil_append, List.cons_append]
  gi_wp2
  have d0 := ((Bk.new w 35 #[.slice none 0 0]).alloc (.cells #[.int .i64 1] 25)).cell 0
  have d1 := (Bk.new (w.alloc (.cells #[.slice none 0 0] 35)) 25 #[.int .i64 1]).cell 0
  simp only [List.getElem?_toArray, World.size_alloc] at d0 d1
  refine ⟨.tuple #[.slice none 0 0, .int .i64 1], ?_, rfl, (Below.of_alloc _ _).alloc (by simp) _⟩
  simp [results, Tryd.f13, go_sem, d0, d1]

set_option maxHeartbeats 1000000 in
theorem playFixed_any (s : ByteArray) (hm : s.size ≤ 9223372036854775807) (w : World) (hE : Env w) (hF : Forms w) :
    Calls Tryd.prog 6 #[.string s] w fun e w' => e = .returned (.bool true) ∧ Below w.heap.size w w' := by
  by_cases hs : 5000000 < s.size
  · go_enter Tryd.func6, Tryd.ntmps6
    go_wp2_with (go_at_call 13; refine (pread_size s hs hm _).mono ?_; rintro e w1 ⟨rfl, hb1⟩)
    go_ret
    exact ⟨rfl, hb1⟩
  · have RD := Lib.hid (pread_body s (by omega) w hE hF)
    cases hok : okPlay s
    · have HOK := Lib.hid hok; clear hok
      go_enter Tryd.func6, Tryd.ntmps6
      go_wp2_with (go_at_call 13; refine RD.out.mono ?_; rintro e w1 ⟨hr, hb1⟩; rw [if_neg (by rw [HOK.out]; simp)] at hr; obtain ⟨n, rfl, hn⟩ := hr)
      go_ret
      exact ⟨rfl, hb1⟩
    · have HOK := Lib.hid hok
      obtain ⟨hl, hg, ht⟩ := play_fixed hok
      clear hok
      generalize hM : movesL (linesL s.data.toList) = ms at *
      have HM := Lib.hid hM; clear hM
      have HG := Lib.hid hg; have HT := Lib.hid ht; clear hg ht
      go_enter Tryd.func6, Tryd.ntmps6
      go_wp2_with (go_at_call 13; refine RD.out.mono ?_; rintro e w1 ⟨hr, hb1⟩; rw [if_pos HOK.out, HM.out] at hr; obtain ⟨v, rfl, hsl⟩ := hr; have SH := Lib.hid (pshow_ok ms v w1 hsl hl HG.out (hE.keep hb1).pow (hF.keep hb1)); obtain ⟨A, c, rfl, _⟩ := hsl)
      have hst : (playT ms == s.toList) = true := by rw [toList_eq, HT.out]; simp
      refine SH.out.mono ?_
      rintro e w2 ⟨rfl, hb2⟩
      go_wp2_with fail
      go_ret
      exact ⟨rfl, hb1.trans (hb2.mono hb1.size)⟩

def pickG (n m : Int) : Int := (if n < 0 then -(n + 1) else n) % m
theorem pick_range (n m : Int) (hm : 0 < m) : 0 ≤ pickG n m ∧ pickG n m < m := ⟨Int.emod_nonneg _ (by omega), Int.emod_lt_of_pos _ hm⟩
theorem picked_any (n m : Int) (h0 : -9223372036854775808 ≤ n) (h1 : n ≤ 9223372036854775807) (hm : 0 < m) (hm1 : m ≤ 9223372036854775807) (w : World) :
    Calls Tryd.prog 22 #[.int .i64 n, .int .i64 m] w fun e w' => e = .returned (.int .i64 (pickG n m)) ∧ w = w' := by
  have t0 : (m == 0) = false := by simp; omega
  by_cases hn : n < 0
  · have hd : decide (n < 0) = true := by simpa using hn
    go_enter Tryd.func22, Tryd.ntmps22
    go_wp2
    go_ret
    refine ⟨?_, rfl⟩
    unfold pickG
    rw [if_pos hn, ← Int.neg_tmod, Int.tmod_eq_emod_of_nonneg (by omega)]
    rfl
  · have hd : decide (n < 0) = false := by simpa using hn
    go_enter Tryd.func22, Tryd.ntmps22
    go_wp2
    go_ret
    refine ⟨?_, rfl⟩
    unfold pickG
    rw [if_neg (by omega)]
    rfl

def moveOfG (kd at_ kp : Int) : Mv :=
  ⟨1 + pickG kd 8, if 1 + pickG kd 8 = 5 ∨ 1 + pickG kd 8 = 8 then 0 else pickG at_ 1000, if 1 + pickG kd 8 = 6 then pickG kp 1000 else 0⟩
theorem moveOf_line (kd at_ kp : Int) : (lineR (moveOfG kd at_ kp)).2 = 0 := by
  obtain ⟨h1, h2⟩ := pick_range kd 8 (by decide)
  obtain ⟨a1, a2⟩ := pick_range at_ 1000 (by decide)
  obtain ⟨p1, p2⟩ := pick_range kp 1000 (by decide)
  have key : ∀ f, formOf (1 + pickG kd 8) = some f → badN f.2.1 (moveOfG kd at_ kp).a = false ∧ badN f.2.2 (moveOfG kd at_ kp).p = false := by
    intro f hf
    unfold moveOfG
    simp only
    generalize pickG kd 8 = k at *
    have good : ∀ n : Int, 0 ≤ n → n < 1000 → badN true n = false := fun n h0 h1 => by simp [badN]; omega
    have zero : badN false 0 = false := by decide
    rcases (show k = 0 ∨ k = 1 ∨ k = 2 ∨ k = 3 ∨ k = 4 ∨ k = 5 ∨ k = 6 ∨ k = 7 by omega) with rfl | rfl | rfl | rfl | rfl | rfl | rfl | rfl
    all_goals
      cases hf
      simp [good _ a1 a2, good _ p1 p2, zero]
  have hex : ∃ f, formOf (1 + pickG kd 8) = some f := by
    unfold formOf
    rw [if_pos (by omega)]
    exact ⟨_, List.getElem?_eq_getElem (by have : formsL.length = 8 := rfl; omega)⟩
  obtain ⟨f, hf⟩ := hex
  obtain ⟨b1, b2⟩ := key f hf
  unfold lineR
  rw [show (moveOfG kd at_ kp).k = 1 + pickG kd 8 from rfl, hf]
  simp only [b1, b2]
  rfl

set_option maxHeartbeats 1000000 in
theorem moveOf_any (kd at_ kp : Int) (h0 : -9223372036854775808 ≤ kd) (h1 : kd ≤ 9223372036854775807) (h2 : -9223372036854775808 ≤ at_) (h3 : at_ ≤ 9223372036854775807) (h4 : -9223372036854775808 ≤ kp) (h5 : kp ≤ 9223372036854775807) (w : World) :
    Calls Tryd.prog 11 #[.agg #[.int .i64 kd, .int .i64 at_], .int .i64 kp] w fun e w' => e = .returned (.agg #[.int .i64 (moveOfG kd at_ kp).k, .int .i64 (moveOfG kd at_ kp).a, .int .i64 (moveOfG kd at_ kp).p]) ∧ Below w.heap.size w w' := by
  have P1 := Lib.hid (fun W => picked_any kd 8 h0 h1 (by decide) (by decide) W)
  have P2 := Lib.hid (fun W => picked_any at_ 1000 h2 h3 (by decide) (by decide) W)
  have P3 := Lib.hid (fun W => picked_any kp 1000 h4 h5 (by decide) (by decide) W)
  obtain ⟨k1, k2⟩ := pick_range kd 8 (by decide)
  unfold moveOfG
  simp only
  generalize pickG kd 8 = k at *
  generalize pickG at_ 1000 = a at *
  generalize pickG kp 1000 = p at *
  have hb : Below w.heap.size w (((w.alloc (.cells #[.int .i64 kd, .int .i64 at_] 40)).alloc (.cells #[.int .i64 0, .int .i64 0, .int .i64 0] 37))) := (Below.of_alloc _ _).alloc (by simp) _
  rcases (show k = 4 ∨ k = 7 ∨ k = 5 ∨ (k ≠ 4 ∧ k ≠ 7 ∧ k ≠ 5) by omega) with rfl | rfl | rfl | ⟨n1, n2, n3⟩
  · skip
    go_enter Tryd.func11, Tryd.ntmps11
    go_wp2_with (first
      | (go_at_call_has 22 kd; refine (P1.out _).mono ?_; rintro e w1 ⟨rfl, rfl⟩)
      | (go_at_call_has 22 at_; refine (P2.out _).mono ?_; rintro e w1 ⟨rfl, rfl⟩)
      | (go_at_call_has 22 kp; refine (P3.out _).mono ?_; rintro e w1 ⟨rfl, rfl⟩))
    have d0 := ((Bk.new (w.alloc (.cells #[.int .i64 kd, .int .i64 at_] 40)) 37 #[.int .i64 5, .int .i64 0, .int .i64 0]).alloc (.cells #[.int .i64 5, .int .i64 0, .int .i64 0] 37)).cell 0
    have d1 := ((Bk.new (w.alloc (.cells #[.int .i64 kd, .int .i64 at_] 40)) 37 #[.int .i64 5, .int .i64 0, .int .i64 0]).alloc (.cells #[.int .i64 5, .int .i64 0, .int .i64 0] 37)).cell 1
    have d2 := ((Bk.new (w.alloc (.cells #[.int .i64 kd, .int .i64 at_] 40)) 37 #[.int .i64 5, .int .i64 0, .int .i64 0]).alloc (.cells #[.int .i64 5, .int .i64 0, .int .i64 0] 37)).cell 2
    simp only [List.getElem?_toArray, World.size_alloc] at d0 d1 d2
    refine bodyPost_ret (v := .agg #[.int .i64 5, .int .i64 0, .int .i64 0]) ?_ rfl ⟨rfl, ((Below.of_alloc _ _).alloc (by simp) _).alloc (by simp; omega) _⟩
    simp [results, Tryd.f11, go_sem, d0, d1, d2]
  · skip
    go_enter Tryd.func11, Tryd.ntmps11
    go_wp2_with (first
      | (go_at_call_has 22 kd; refine (P1.out _).mono ?_; rintro e w1 ⟨rfl, rfl⟩)
      | (go_at_call_has 22 at_; refine (P2.out _).mono ?_; rintro e w1 ⟨rfl, rfl⟩)
      | (go_at_call_has 22 kp; refine (P3.out _).mono ?_; rintro e w1 ⟨rfl, rfl⟩))
    have d0 := ((Bk.new (w.alloc (.cells #[.int .i64 kd, .int .i64 at_] 40)) 37 #[.int .i64 8, .int .i64 0, .int .i64 0]).alloc (.cells #[.int .i64 8, .int .i64 0, .int .i64 0] 37)).cell 0
    have d1 := ((Bk.new (w.alloc (.cells #[.int .i64 kd, .int .i64 at_] 40)) 37 #[.int .i64 8, .int .i64 0, .int .i64 0]).alloc (.cells #[.int .i64 8, .int .i64 0, .int .i64 0] 37)).cell 1
    have d2 := ((Bk.new (w.alloc (.cells #[.int .i64 kd, .int .i64 at_] 40)) 37 #[.int .i64 8, .int .i64 0, .int .i64 0]).alloc (.cells #[.int .i64 8, .int .i64 0, .int .i64 0] 37)).cell 2
    simp only [List.getElem?_toArray, World.size_alloc] at d0 d1 d2
    refine bodyPost_ret (v := .agg #[.int .i64 8, .int .i64 0, .int .i64 0]) ?_ rfl ⟨rfl, ((Below.of_alloc _ _).alloc (by simp) _).alloc (by simp; omega) _⟩
    simp [results, Tryd.f11, go_sem, d0, d1, d2]
  · skip
    go_enter Tryd.func11, Tryd.ntmps11
    go_wp2_with (first
      | (go_at_call_has 22 kd; refine (P1.out _).mono ?_; rintro e w1 ⟨rfl, rfl⟩)
      | (go_at_call_has 22 at_; refine (P2.out _).mono ?_; rintro e w1 ⟨rfl, rfl⟩)
      | (go_at_call_has 22 kp; refine (P3.out _).mono ?_; rintro e w1 ⟨rfl, rfl⟩))
    have d0 := ((Bk.new (w.alloc (.cells #[.int .i64 kd, .int .i64 at_] 40)) 37 #[.int .i64 6, .int .i64 a, .int .i64 p]).alloc (.cells #[.int .i64 6, .int .i64 a, .int .i64 p] 37)).cell 0
    have d1 := ((Bk.new (w.alloc (.cells #[.int .i64 kd, .int .i64 at_] 40)) 37 #[.int .i64 6, .int .i64 a, .int .i64 p]).alloc (.cells #[.int .i64 6, .int .i64 a, .int .i64 p] 37)).cell 1
    have d2 := ((Bk.new (w.alloc (.cells #[.int .i64 kd, .int .i64 at_] 40)) 37 #[.int .i64 6, .int .i64 a, .int .i64 p]).alloc (.cells #[.int .i64 6, .int .i64 a, .int .i64 p] 37)).cell 2
    simp only [List.getElem?_toArray, World.size_alloc] at d0 d1 d2
    refine bodyPost_ret (v := .agg #[.int .i64 6, .int .i64 a, .int .i64 p]) ?_ rfl ⟨rfl, ((Below.of_alloc _ _).alloc (by simp) _).alloc (by simp; omega) _⟩
    simp [results, Tryd.f11, go_sem, d0, d1, d2]
  · have t1 : ((1 + k) != 5) = true := bne_iff_ne.2 (by omega)
    have t2 : ((1 + k) != 8) = true := bne_iff_ne.2 (by omega)
    have t3 : ((1 + k) == 6) = false := beq_eq_false_iff_ne.2 (by omega)
    go_enter Tryd.func11, Tryd.ntmps11
    go_wp2_with (first
      | (go_at_call_has 22 kd; refine (P1.out _).mono ?_; rintro e w1 ⟨rfl, rfl⟩)
      | (go_at_call_has 22 at_; refine (P2.out _).mono ?_; rintro e w1 ⟨rfl, rfl⟩)
      | (go_at_call_has 22 kp; refine (P3.out _).mono ?_; rintro e w1 ⟨rfl, rfl⟩))
    have d0 := ((Bk.new (w.alloc (.cells #[.int .i64 kd, .int .i64 at_] 40)) 37 #[.int .i64 (1 + k), .int .i64 a, .int .i64 0]).alloc (.cells #[.int .i64 (1 + k), .int .i64 a, .int .i64 0] 37)).cell 0
    have d1 := ((Bk.new (w.alloc (.cells #[.int .i64 kd, .int .i64 at_] 40)) 37 #[.int .i64 (1 + k), .int .i64 a, .int .i64 0]).alloc (.cells #[.int .i64 (1 + k), .int .i64 a, .int .i64 0] 37)).cell 1
    have d2 := ((Bk.new (w.alloc (.cells #[.int .i64 kd, .int .i64 at_] 40)) 37 #[.int .i64 (1 + k), .int .i64 a, .int .i64 0]).alloc (.cells #[.int .i64 (1 + k), .int .i64 a, .int .i64 0] 37)).cell 2
    simp only [List.getElem?_toArray, World.size_alloc] at d0 d1 d2
    refine bodyPost_ret (v := .agg #[.int .i64 (1 + k), .int .i64 a, .int .i64 0]) ?_ rfl ⟨rfl, ((Below.of_alloc _ _).alloc (by simp) _).alloc (by simp; omega) _⟩
    simp [results, Tryd.f11, go_sem, d0, d1, d2]

structure Tr where
  kd : Int
  at_ : Int
def encT (t : Tr) : List Value := [.int .i64 t.kd, .int .i64 t.at_]
def movesK (ts : List Tr) (kp : Int) (k : Nat) : List Mv := (ts.take k).map fun t => moveOfG t.kd t.at_ kp
theorem movesK_snoc {ts : List Tr} {kp : Int} {k : Nat} {t : Tr} (h : ts[k]? = some t) : movesK ts kp (k + 1) = movesK ts kp k ++ [moveOfG t.kd t.at_ kp] := by
  unfold movesK; rw [List.take_add_one, h]; simp
theorem movesK_len {ts : List Tr} {kp : Int} {k : Nat} (h : k ≤ ts.length) : (movesK ts kp k).length = k := by simp [movesK]; omega
theorem movesK_line (ts : List Tr) (kp : Int) (k : Nat) : ∀ m ∈ movesK ts kp k, (lineR m).2 = 0 := by
  intro m hm
  obtain ⟨t, _, rfl⟩ := List.mem_map.1 hm
  exact moveOf_line _ _ _

set_option maxRecDepth 10000 in
set_option maxHeartbeats 2000000 in
theorem playBack_any (ts : List Tr) (v : Value) (kp : Int) (hts : ∀ t ∈ ts, I64 t.kd ∧ I64 t.at_) (hkp : I64 kp) (w : World) (hv : Sl 2 encT w w.heap.size v ts) (hE : Env w) (hF : Forms w) :
    Calls Tryd.prog 5 #[v, .int .i64 kp] w fun e w' => e = .returned (.bool true) ∧ Below w.heap.size w w' := by
  obtain ⟨i0, hi, hz0, hz1, hz2⟩ := info_parts infoMove
  obtain ⟨A, c, rfl, hac, hcm, hA⟩ := hv
  have HA := Lib.hid hA; clear hA
  have HTS := Lib.hid hts; clear hts
  generalize hlen : ts.length = len at *
  have HL := Lib.hid hlen; clear hlen
  have HE := Lib.hid hE; have HF := Lib.hid hF; clear hE hF
  obtain ⟨kp0, kp1⟩ := hkp
  go_enter Tryd.func5, Tryd.ntmps5
  go_wp2
  go_loopw [5, 6, 7] (fun v i _ wr => ∃ k : Nat, k ≤ len ∧ k ≤ 100 ∧ i = .int .i64 k ∧ wr.ownsRow w.heap.size 37 3 v k ((movesK ts kp k).flatMap encM) ∧ Below w.heap.size w wr) (fun _ i _ wr => len - (intOf i).toNat)
  case atStart => exact ⟨0, Nat.zero_le _, Nat.zero_le _, rfl, World.ownsRow_nil _ _ _ _, Below.refl _ _⟩
  case round =>
    obtain ⟨k, hk, hk1, rfl, hown, hbel⟩ := hrel
    have hB := hbel.size
    by_cases hlt : k < len ∧ k < 100
    · obtain ⟨hlt, hlt2⟩ := hlt
      obtain ⟨b, o, rfl, hb, hc⟩ := HA.out (by omega)
      obtain ⟨x, hx⟩ : ∃ x, ts[k]? = some x := ⟨_, List.getElem?_eq_getElem (by rw [HL.out]; exact hlt)⟩
      have hc0 := (hbel.cell (p := ⟨b, o + k * 2, none⟩) hb).trans (hc k x hx 0 _ rfl)
      have hc1 := (hbel.cell (p := ⟨b, o + k * 2 + 1, none⟩) hb).trans (hc k x hx 1 _ rfl)
      obtain ⟨⟨x0, x1⟩, x2, x3⟩ := HTS.out x (List.mem_of_getElem? hx)
      have MO := Lib.hid (fun W => moveOf_any x.kd x.at_ kp x0 x1 x2 x3 kp0 kp1 W)
      have SN := Lib.hid (movesK_snoc (kp := kp) hx)
      clear hx hc x0 x1 x2 x3
      generalize moveOfG x.kd x.at_ kp = m at *
      go_wp2_with (first
        | (go_at_call 11; refine (MO.out _).mono ?_; rintro e w2 ⟨rfl, hb2⟩; have hown2 := own_old hown hb2; have hB2 := hb2.size)
        | (at_builtin; refine wpList_append_own _ rfl _ _ 35 rfl w.heap.size 37 i0 (.agg #[.int .i64 0, .int .i64 0, .int .i64 0]) 3 24 Tryd.underlying35 hi hz0 hz1 hz2 rfl (by decide) _ _ _ rfl (own_old hown2 ((Below.of_alloc _ _).trans ((Below.of_alloc _ _).mono (by simp)))) ⟨w2.heap.size + 1, 0, none⟩ 1 1 (encM m) rfl rfl ?_ ?_ ?_ ?_ ?_ ?_))
      · intro j u hj
        have := (Bk.new (w2.alloc (.cells #[.int .i64 m.k, .int .i64 m.a, .int .i64 m.p] 37)) 37 #[.int .i64 m.k, .int .i64 m.a, .int .i64 m.p]).cell j
        rw [World.size_alloc] at this
        rw [show (⟨w2.heap.size + 1, 0, none⟩ : Addr).add j = ⟨w2.heap.size + 1, j, none⟩ by unfold Addr.add; split <;> simp_all, this]
        simpa [encM] using hj
      · intro u hu
        simp [encM] at hu
        rcases hu with rfl | rfl | rfl <;> rfl
      · unfold maxLen; omega
      · omega
      · simp; omega
      intro v2 W2 hown3 hgrow hat
      have F1 : Hid (W2.ownsRow w.heap.size 37 3 v2 (k + 1) ((movesK ts kp (k + 1)).flatMap encM)) := by
        unfold Hid; rw [SN.out, List.flatMap_append, List.flatMap_cons, List.flatMap_nil, List.append_nil]; exact hown3
      have F2 : Hid (Below w.heap.size w W2) := by
        have h2 := hbel.trans (hb2.mono hB)
        exact ((h2.alloc h2.size _).alloc (by have := h2.size; simp; omega) _).grown hgrow (by have := h2.size; simp; omega) (fun g e => (hown.lt g e).1)
      clear hown3 hgrow hat hown hown2 hb2
      go_wp2
      go_roundw
      case rel => exact ⟨k + 1, by omega, by omega, by go_num, F1.out, F2.out⟩
      case measure => simp [intOf]; omega
    · have hms : (movesK ts kp k).length = k := movesK_len (by rw [HL.out]; exact hk)
      have hok := movesK_line ts kp k
      have hsl : Sl 3 encM wr wr.heap.size u5 (movesK ts kp k) := Sl.of_own (fun _ => rfl) (by rw [hms]; exact hown)
      have htl : (playT (movesK ts kp k)).length ≤ 51 * (movesK ts kp k).length := flat_len fun m hm => mline_len (hok m hm)
      obtain ⟨hp1, hp2⟩ := play_back hok (by rw [hms]; omega) ⟨(playT (movesK ts kp k)).toArray⟩ rfl
      have RD := Lib.hid (fun W hE hF => pread_body ⟨(playT (movesK ts kp k)).toArray⟩ (by show (playT (movesK ts kp k)).length ≤ 5000000; omega) W hE hF)
      generalize hM : movesK ts kp k = ms at *
      have SH := Lib.hid (pshow_ok ms u5 wr hsl (by omega) hok (HE.out.keep hbel).pow (HF.out.keep hbel))
      have hsl0 := Lib.hid hsl
      obtain ⟨A5, c5, rfl, _⟩ := hsl
      have HP1 := Lib.hid hp1; have HP2 := Lib.hid hp2
      clear hp1 hp2 hM hok hown htl
      rw [hms]
      rw [hms] at SH
      go_wp2_with fail
      all_goals
        refine SH.out.mono ?_
        rintro e w1 ⟨rfl, hb1⟩
        have hb01 := hbel.trans (hb1.mono hB)
        go_wp2_with fail
        refine (RD.out w1 (HE.out.keep hb01) (HF.out.keep hb01)).mono ?_
        rintro e w2 ⟨hr, hb2⟩
        rw [if_pos HP1.out, HP2.out] at hr
        obtain ⟨v', rfl, hs2⟩ := hr
        have hb02 := hb01.trans (hb2.mono hb01.size)
        have hs1 := (hsl0.out.below (hb1.trans (hb2.mono hb1.size))).more (Nat.le_trans hb1.size hb2.size)
        obtain ⟨A', c', rfl, _, _, hA'⟩ := hs2
        obtain ⟨A6, c6, e6, _, _, hA6⟩ := hs1
        rw [hms] at e6 hA6 hA'
        cases e6
        have HA5 := Lib.hid hA6; have HA' := Lib.hid hA'
        clear hA6 hA' hb1 hb2
        rw [hms]
        go_wp2_with fail
        go_loopw [12] (fun i wr' => ∃ j : Nat, j ≤ k ∧ i = .int .i64 j ∧ Below w2.heap.size w2 wr') (fun i _ => k - (intOf i).toNat)
        case atStart => exact ⟨0, Nat.zero_le _, rfl, Below.refl _ _⟩
        case round =>
          obtain ⟨j, hj, rfl, hbw⟩ := hrel
          by_cases hlt2 : j < k
          · obtain ⟨b, o, rfl, hb5, hc⟩ := HA5.out (by omega)
            obtain ⟨b', o', rfl, hb5', hc'⟩ := HA'.out (by omega)
            obtain ⟨x, hx⟩ : ∃ x, ms[j]? = some x := ⟨_, List.getElem?_eq_getElem (by omega)⟩
            have p0 := (hbw.cell (p := ⟨b, o + j * 3, none⟩) hb5).trans (hc j x hx 0 _ rfl)
            have p1 := (hbw.cell (p := ⟨b, o + j * 3 + 1, none⟩) hb5).trans (hc j x hx 1 _ rfl)
            have p2 := (hbw.cell (p := ⟨b, o + j * 3 + 2, none⟩) hb5).trans (hc j x hx 2 _ rfl)
            have q0 := (hbw.cell (p := ⟨b', o' + j * 3, none⟩) hb5').trans (hc' j x hx 0 _ rfl)
            have q1 := (hbw.cell (p := ⟨b', o' + j * 3 + 1, none⟩) hb5').trans (hc' j x hx 1 _ rfl)
            have q2 := (hbw.cell (p := ⟨b', o' + j * 3 + 2, none⟩) hb5').trans (hc' j x hx 2 _ rfl)
            clear hx hc hc'
            go_wp2_with fail
            go_quiet (fail)
            go_wp2
            go_roundw
            case rel => exact ⟨j + 1, by omega, by go_num, below_drewN hbw nq⟩
            case measure => simp [intOf]; omega
          · obtain rfl : j = k := by omega
            go_wp2
            go_ret
            exact ⟨rfl, hb02.trans (hbw.mono hb02.size)⟩
end Go.Proofs.YteehgoaibblpfaaDoor
