/- play.line: a move's line. -/
import Derived.Test.YteehgoaibblpfaaDoorEnvOf
import Derived.Test.YteehgoaibblpfaaDoorRead
import Derived.OpenShut
import Derived.Deep.Fields
namespace Go.Proofs.YteehgoaibblpfaaDoor
open Go.RowKit Go.Deep

/-- Of each kind: its word, and whether it has two numbers. -/
def formsL : List (List UInt8 × Bool × Bool) := [([119, 111, 114, 107], true, false), ([99, 97, 114, 114, 121], true, false), ([108, 111, 115, 101], true, false), ([100, 111, 117, 98, 108, 101], true, false), ([97, 108, 108], false, false), ([99, 114, 97, 115, 104], true, true), ([115, 116, 97, 114, 116], true, false), ([108, 101, 97, 100], false, false)]
def encF (f : List UInt8 × Bool × Bool) : List Value := [.string ⟨f.1.toArray⟩, .bool f.2.1, .bool f.2.2]
structure Forms (w : World) : Prop where
  at_ : ∀ i f, formsL[i]? = some f → ∀ j u, (encF f)[j]? = some u → w.cell? ⟨0, i * 3 + j, none⟩ = some u
theorem Forms.keep {w w' : World} (h : Forms w) (hb : Below w.heap.size w w') : Forms w' := ⟨fun i f hf j u hu => cell_keep (h.at_ i f hf j u hu) hb⟩

theorem three {α : Type} {l : List α} (h : l.length = 3) : ∃ a b c, l = [a, b, c] := by
  match l, h with
  | [a, b, c], _ => exact ⟨a, b, c, rfl⟩

section
variable {H : Type} {enc : TypeId × Value → H} {w : World} {base : Nat} {sp : Nat → Bool} {held : Bool}
theorem form_row {n : Nat} {cs : List Value} {s : List UInt8} {a b : Bool} {p : List MemPlace} (h : DataW.trod enc Tryd.prog w base sp held n 74 cs = some (.agg [.lit (.string s), .lit (.bool a), .lit (.bool b)], p)) :
    cs = encF (s, a, b) := by
  obtain ⟨xs, m, _, hx, hl, hxl, hf⟩ := DataW.trod_struct Tryd.underlying74 h
  have hl3 : cs.length = 3 := hl.trans (by kernel_rfl)
  obtain ⟨c0, c1, c2, rfl⟩ := three hl3
  obtain ⟨y0, y1, y2, rfl⟩ := three hxl
  · · simp only [Prod.mk.injEq, List.map_cons, List.map_nil, DataW.agg.injEq, List.cons.injEq, and_true] at hx
      obtain ⟨⟨e0, e1, e2⟩, _⟩ := hx
      have h0 : DataW.trod enc Tryd.prog w base sp held m 9 (([c0, c1, c2].drop 0).take (Tryd.prog.cellsOf 9)) = [y0, y1, y2][0]? := hf 0 _ rfl
      have h1 : DataW.trod enc Tryd.prog w base sp held m 4 (([c0, c1, c2].drop 1).take (Tryd.prog.cellsOf 4)) = [y0, y1, y2][1]? := hf 1 _ rfl
      have h2 : DataW.trod enc Tryd.prog w base sp held m 4 (([c0, c1, c2].drop 2).take (Tryd.prog.cellsOf 4)) = [y0, y1, y2][2]? := hf 2 _ rfl
      rw [show Tryd.prog.cellsOf 9 = 1 by kernel_rfl] at h0
      rw [show Tryd.prog.cellsOf 4 = 1 by kernel_rfl] at h1 h2
      simp only [List.drop_zero, List.drop_succ_cons, List.take_succ_cons, List.take_zero, List.getElem?_cons_zero, List.getElem?_cons_succ] at h0 h1 h2
      obtain ⟨s', k0, r0, _⟩ := DataW.trod_string Tryd.underlying9 h0
      obtain ⟨b1, k1, r1⟩ := DataW.trod_bool Tryd.underlying4 h1
      obtain ⟨b2, k2, r2⟩ := DataW.trod_bool Tryd.underlying4 h2
      subst r0 r1 r2
      simp only [DataW.lit.injEq, Lit.string.injEq, Lit.bool.injEq] at e0 e1 e2
      simp only [List.cons.injEq, and_true] at k0 k1 k2
      subst e0 e1 e2 k0 k1 k2
      simp [encF]
end

def datF (f : List UInt8 × Bool × Bool) : DataW Unit := .agg [.lit (.string f.1), .lit (.bool f.2.1), .lit (.bool f.2.2)]
theorem forms_of {w : World} (h : Lib.VarReads Tryd.prog w "paceline/play.forms" (.agg (formsL.map datF))) : Forms w := by
  obtain ⟨g', t', cs, fuel, p, hg', ht', hv, hd⟩ := h
  obtain rfl : g' = 0 := Option.some.inj (hg'.symm.trans (by kernel_rfl))
  obtain rfl : t' = 75 := Option.some.inj (ht'.symm.trans (by kernel_rfl))
  obtain ⟨xs, m, _, hx, hl, hxl, hf⟩ := DataW.trod_array Tryd.underlying75 hd
  refine ⟨fun i f hi j u hu => ?_⟩
  rw [World.var?_cell hg' hv]
  have hi8 : i < 8 := (List.getElem?_eq_some_iff.1 hi).1
  have hj3 : j < 3 := (List.getElem?_eq_some_iff.1 hu).1
  have h1 := hf i hi8
  rw [show Tryd.prog.cellsOf 74 = 3 by kernel_rfl] at h1
  have hx2 : (xs.map (·.1))[i]? = some (datF f) := by
    have : formsL.map datF = xs.map (·.1) := by simpa using (Prod.mk.inj hx).1
    rw [← this, List.getElem?_map, hi]; rfl
  rw [List.getElem?_map] at hx2
  cases hxi : xs[i]? with
  | none => rw [hxi] at hx2; cases hx2
  | some y =>
    rw [hxi] at hx2 h1
    obtain ⟨y1, y2⟩ := y
    simp at hx2
    subst hx2
    have := form_row h1
    have hu2 : ((cs.toList.drop (i * 3)).take 3)[j]? = some u := by rw [this]; exact hu
    rw [List.getElem?_take, if_pos hj3, List.getElem?_drop] at hu2
    simpa using hu2

structure Mv where
  k : Int
  a : Int
  p : Int
def encM (m : Mv) : List Value := [.int .i64 m.k, .int .i64 m.a, .int .i64 m.p]
def badN (has : Bool) (n : Int) : Bool := decide (n < 0) || (decide (1152921504606846976 < n) || (!has && n != 0))
def partN (has : Bool) (n : Int) : List UInt8 := if has then 32 :: Lib.itoa n else []
def formOf (k : Int) : Option (List UInt8 × Bool × Bool) := if 1 ≤ k then formsL[(k - 1).toNat]? else none
def lineR (m : Mv) : List UInt8 × Int := match formOf m.k with
  | none => ([], 3)
  | some f => if badN f.2.1 m.a || badN f.2.2 m.p then ([], 2) else (f.1 ++ partN f.2.1 m.a ++ partN f.2.2 m.p ++ [10], 0)
theorem bad_yes {has : Bool} {n : Int} (h : badN has n = true) : n < 0 ∨ (0 ≤ n ∧ 1152921504606846976 < n) ∨ (0 ≤ n ∧ n ≤ 1152921504606846976 ∧ has = false ∧ n ≠ 0) := by
  by_cases h1 : n < 0
  · exact .inl h1
  · by_cases h2 : 1152921504606846976 < n
    · exact .inr (.inl ⟨by omega, h2⟩)
    · refine .inr (.inr ⟨by omega, by omega, ?_⟩)
      simp [badN, h1, h2] at h
      exact h
theorem bad_no {has : Bool} {n : Int} (h : badN has n = false) : (0 ≤ n ∧ n ≤ 1152921504606846976 ∧ has = true) ∨ (has = false ∧ n = 0) := by
  simp only [badN, Bool.or_eq_false_iff, decide_eq_false_iff_not, Bool.and_eq_false_iff] at h
  obtain ⟨h1, h2, h3⟩ := h
  cases has
  · right; simpa using h3
  · left; exact ⟨by omega, by omega, rfl⟩

theorem form_none {k : Int} (h : formOf k = none) : k < 1 ∨ (1 ≤ k ∧ 8 < k) := by
  unfold formOf at h
  split at h
  · rw [List.getElem?_eq_none_iff] at h
    have : formsL.length = 8 := rfl
    omega
  · omega
theorem form_some {k : Int} {f : List UInt8 × Bool × Bool} (h : formOf k = some f) : ∃ i : Nat, i < 8 ∧ k = i + 1 ∧ formsL[i]? = some f := by
  unfold formOf at h
  split at h
  · have := (List.getElem?_eq_some_iff.1 h).1
    have h8 : formsL.length = 8 := rfl
    exact ⟨(k - 1).toNat, by omega, by omega, h⟩
  · cases h

theorem line_none (m : Mv) (h : formOf m.k = none) (w : World) :
    Calls Tryd.prog 23 #[.agg #[.int .i64 m.k, .int .i64 m.a, .int .i64 m.p]] w fun e w' => e = .returned (.tuple #[.string ⟨#[]⟩, .int .i64 3]) ∧ Below w.heap.size w w' := by
  rcases form_none h with h | ⟨h1, h2⟩
  all_goals
    go_enter Tryd.func23, Tryd.ntmps23
    go_wp2
    go_ret2
    exact ⟨rfl, Below.of_alloc _ _⟩

theorem string_app (a b : List UInt8) : (⟨a.toArray⟩ : ByteArray) ++ ⟨b.toArray⟩ = ⟨(a ++ b).toArray⟩ := by
  apply ByteArray.ext; simp
def preS (f : List UInt8 × Bool × Bool) (a p : Int) : Nat → List UInt8
  | 0 => f.1
  | 1 => f.1 ++ partN f.2.1 a
  | _ => f.1 ++ partN f.2.1 a ++ partN f.2.2 p

def LineE (f : List UInt8 × Bool × Bool) (a p : Int) (e : Ending) : Prop :=
  e = .returned (if badN f.2.1 a || badN f.2.2 p then .tuple #[.string ⟨#[]⟩, .int .i64 2] else .tuple #[.string ⟨(f.1 ++ partN f.2.1 a ++ partN f.2.2 p ++ [10]).toArray⟩, .int .i64 0])
theorem lineE_bad1 {f : List UInt8 × Bool × Bool} {a p : Int} (h : badN f.2.1 a = true) : LineE f a p (.returned (.tuple #[.string ⟨#[]⟩, .int .i64 2])) := by
  unfold LineE; rw [h]; rfl
theorem lineE_bad2 {f : List UInt8 × Bool × Bool} {a p : Int} (h : badN f.2.2 p = true) : LineE f a p (.returned (.tuple #[.string ⟨#[]⟩, .int .i64 2])) := by
  unfold LineE; rw [h, Bool.or_true]; rfl
theorem lineE_ok {f : List UInt8 × Bool × Bool} {a p : Int} (h : badN f.2.1 a = false) (h' : badN f.2.2 p = false) {b : ByteArray} (hb : b.data.toList = f.1 ++ partN f.2.1 a ++ partN f.2.2 p ++ [10]) : LineE f a p (.returned (.tuple #[.string b, .int .i64 0])) := by
  unfold LineE; rw [h, h', ← hb]; rfl
set_option maxRecDepth 10000 in
set_option maxHeartbeats 1000000 in
theorem line_some (i : Nat) (f : List UInt8 × Bool × Bool) (hi : i < 8) (hf : formsL[i]? = some f) (a p : Int) (w : World) (hF : Forms w) (hp : Pow w) :
    Calls Tryd.prog 23 #[.agg #[.int .i64 (i + 1), .int .i64 a, .int .i64 p]] w fun e w' =>
      LineE f a p e ∧ Below w.heap.size w w' := by
  have c0 := fun o => cell_later (o := o) (hF.at_ i f hf 0 _ rfl)
  have c1 := fun o => cell_later (o := o) (hF.at_ i f hf 1 _ rfl)
  have c2 := fun o => cell_later (o := o) (hF.at_ i f hf 2 _ rfl)
  simp only [Nat.add_zero] at c0
  have d1 : decide ((i : Int) + 1 < 1) = false := by simp; omega
  have d2 : decide (8 < (i : Int) + 1) = false := by simp; omega
  have hs6 : f.1.length ≤ 10 := by
    have := (show ∀ f ∈ formsL, f.1.length ≤ 10 by decide) f (List.mem_of_getElem? hf)
    exact this
  obtain ⟨s, fa, fk⟩ := f
  have HP := Lib.hid hp
  clear hF hf
  have i0 : ∀ w, (Instr.index 77 (.agg #[.bool fa, .int .i64 a, .bool fk, .int .i64 p]) (.int .i64 0)).run Tryd.prog w = .ok (.agg #[.bool fa, .int .i64 a]) w := fun _ => by kernel_rfl
  have i1 : ∀ w, (Instr.index 77 (.agg #[.bool fa, .int .i64 a, .bool fk, .int .i64 p]) (.int .i64 1)).run Tryd.prog w = .ok (.agg #[.bool fk, .int .i64 p]) w := fun _ => by kernel_rfl
  go_enter Tryd.func23, Tryd.ntmps23
  go_wp2
  clear c0 c1 c2 d1 d2
  go_loopw [5, 34] (fun q i wr => ∃ k : Nat, k ≤ 2 ∧ i = .int .i64 k ∧ q = .string ⟨(preS (s, fa, fk) a p k).toArray⟩ ∧ (preS (s, fa, fk) a p k).length ≤ 10 + 30 * k ∧ Hid ((0 < k → badN fa a = false) ∧ (1 < k → badN fk p = false)) ∧ Below w.heap.size w wr) (fun _ i wr => 2 - (intOf i).toNat)
  case atStart => exact ⟨0, by omega, rfl, rfl, by simpa [preS] using hs6, ⟨fun h => absurd h (by omega), fun h => absurd h (by omega)⟩, (Below.of_alloc _ _).alloc (by simp) _⟩
  case round =>
    obtain ⟨k, hk, hi', rfl, hln, hgood, hbel⟩ := hrel
    have hB := hbel.size
    rcases (show k = 0 ∨ k = 1 ∨ k = 2 by omega) with rfl | rfl | rfl
    · obtain rfl : u34 = .int .i64 0 := hi'
      cases hb : badN fa a
      · have HB := Lib.hid hb
        rcases bad_no hb with ⟨h0, h1, rfl⟩ | ⟨rfl, rfl⟩
        · clear hb
          have t1 : decide (a < 0) = false := by simp; omega
          have t2 : decide (1152921504606846976 < a) = false := by simp; omega
          have il := itoa_len (n := a) (by omega) (by omega)
          go_wp2_with (go_at_call 17; refine (itoa_any a (by omega) (by omega) _ (pow_keep HP.out (hbel.alloc hB _))).mono ?_; rintro e w2 ⟨rfl, hbe2⟩)
          go_roundw
          case rel => exact ⟨1, by omega, by go_num, by simp [preS, partN, string_app], by simp [preS, partN] at hln ⊢; omega, ⟨fun _ => by first | exact HB.out | trivial, fun h => absurd h (by omega)⟩, (hbel.alloc hB _).trans (hbe2.mono (by simp; omega))⟩
          case measure => simp [intOf]
        · clear hb
          go_wp2
          go_roundw
          case rel => exact ⟨1, by omega, by go_num, by simp [preS, partN], by simp [preS, partN] at hln ⊢; omega, ⟨fun _ => by first | exact HB.out | trivial, fun h => absurd h (by omega)⟩, (hbel.alloc hB _)⟩
          case measure => simp [intOf]
      · rcases bad_yes hb with h1 | ⟨h0, h1⟩ | ⟨h0, h1, rfl, h2⟩
        · have HB := Lib.hid hb
          clear hb
          have t1 : decide (a < 0) = true := by simpa using h1
          go_wp2
          go_ret2
          exact ⟨lineE_bad1 HB.out, hbel.alloc hB _⟩
        · have HB := Lib.hid hb
          clear hb
          have t1 : decide (a < 0) = false := by simp; omega
          have t2 : decide (1152921504606846976 < a) = true := by simp; omega
          go_wp2
          go_ret2
          exact ⟨lineE_bad1 HB.out, hbel.alloc hB _⟩
        · have HB := Lib.hid hb
          clear hb
          have t1 : decide (a < 0) = false := by simp; omega
          have t2 : decide (1152921504606846976 < a) = false := by simp; omega
          have t3 : (a != 0) = true := by simp [h2]
          go_wp2
          go_ret2
          exact ⟨lineE_bad1 HB.out, hbel.alloc hB _⟩
    · obtain rfl : u34 = .int .i64 1 := hi'
      cases hb : badN fk p
      · have HB := Lib.hid hb
        rcases bad_no hb with ⟨h0, h1, rfl⟩ | ⟨rfl, rfl⟩
        · clear hb
          have t1 : decide (p < 0) = false := by simp; omega
          have t2 : decide (1152921504606846976 < p) = false := by simp; omega
          have il := itoa_len (n := p) (by omega) (by omega)
          go_wp2_with (go_at_call 17; refine (itoa_any p (by omega) (by omega) _ (pow_keep HP.out (hbel.alloc hB _))).mono ?_; rintro e w2 ⟨rfl, hbe2⟩)
          go_roundw
          case rel => exact ⟨2, by omega, by go_num, by simp [preS, partN, string_app], by simp [preS, partN] at hln ⊢; omega, ⟨fun _ => hgood.out.1 (by omega), fun _ => by first | exact HB.out | trivial⟩, (hbel.alloc hB _).trans (hbe2.mono (by simp; omega))⟩
          case measure => simp [intOf]
        · clear hb
          go_wp2
          go_roundw
          case rel => exact ⟨2, by omega, by go_num, by simp [preS, partN], by simp [preS, partN] at hln ⊢; omega, ⟨fun _ => hgood.out.1 (by omega), fun _ => by first | exact HB.out | trivial⟩, (hbel.alloc hB _)⟩
          case measure => simp [intOf]
      · rcases bad_yes hb with h1 | ⟨h0, h1⟩ | ⟨h0, h1, rfl, h2⟩
        · have HB := Lib.hid hb
          clear hb
          have t1 : decide (p < 0) = true := by simpa using h1
          go_wp2
          go_ret2
          exact ⟨lineE_bad2 HB.out, hbel.alloc hB _⟩
        · have HB := Lib.hid hb
          clear hb
          have t1 : decide (p < 0) = false := by simp; omega
          have t2 : decide (1152921504606846976 < p) = true := by simp; omega
          go_wp2
          go_ret2
          exact ⟨lineE_bad2 HB.out, hbel.alloc hB _⟩
        · have HB := Lib.hid hb
          clear hb
          have t1 : decide (p < 0) = false := by simp; omega
          have t2 : decide (1152921504606846976 < p) = false := by simp; omega
          have t3 : (p != 0) = true := by simp [h2]
          go_wp2
          go_ret2
          exact ⟨lineE_bad2 HB.out, hbel.alloc hB _⟩
    · obtain rfl : u34 = .int .i64 2 := hi'
      obtain ⟨g1, g2⟩ := hgood.out
      have G1 := Lib.hid (g1 (by omega)); have G2 := Lib.hid (g2 (by omega))
      clear g1 g2 hgood
      go_wp2
      go_ret2
      exact ⟨lineE_ok G1.out G2.out (by simp [preS]), hbel⟩

theorem mline_any (m : Mv) (w : World) (hF : Forms w) (hp : Pow w) :
    Calls Tryd.prog 23 #[.agg (encM m).toArray] w fun e w' => e = .returned (.tuple #[.string ⟨(lineR m).1.toArray⟩, .int .i64 (lineR m).2]) ∧ Below w.heap.size w w' := by
  cases h : formOf m.k with
  | none =>
    refine (line_none m h w).mono fun e w' ⟨he, hb⟩ => ⟨?_, hb⟩
    rw [he, lineR, h]
  | some f =>
    obtain ⟨i, hi, hk, hf⟩ := form_some h
    obtain ⟨k, a, p⟩ := m
    simp only at hk h
    subst hk
    refine (line_some i f hi hf a p w hF hp).mono fun e w' ⟨he, hb⟩ => ⟨?_, hb⟩
    unfold LineE at he
    rw [he, lineR]
    simp only [h]
    split <;> rfl
end Go.Proofs.YteehgoaibblpfaaDoor
