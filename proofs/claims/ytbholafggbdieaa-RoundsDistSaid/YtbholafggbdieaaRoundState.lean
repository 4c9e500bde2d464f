/- Jobs and states: plain, and as they lie in memory. -/
import Derived.Test.YtbholafggbdieaaWakes
namespace Go.Proofs.Ytbholafggbdieaa
open Go.RowKit

structure Jb where
  n : Int
  es : List Ed
  kind : Int
  src : Int
structure Stt where
  step : Int
  phase : Int
  fresh : Bool
  done : Bool
  vals : List Vl
  mail : List (List Int)

structure GoodJ (j : Jb) : Prop where
  n0 : 1 ≤ j.n
  g : checkG j.n j.es = 0
  kind : j.kind = 1 ∨ j.kind = 2 ∨ j.kind = 3
  src : j.kind = 1 → 0 ≤ j.src ∧ j.src < j.n
theorem checkG_zero {n : Int} {es : List Ed} (h : checkG n es = 0) : 0 ≤ n ∧ n ≤ 200 ∧ es.length ≤ 600 ∧ ∀ e ∈ es, goodE n e = true := by
  unfold checkG at h
  split at h
  · cases h
  · rename_i h'
    unfold allG at h
    split at h
    · rename_i h2
      exact ⟨by omega, by omega, by omega, by simpa using h2⟩
    · cases h
theorem GoodJ.top {j : Jb} (h : GoodJ j) : j.n ≤ 200 := (checkG_zero h.g).2.1

def total (mail : List (List Int)) : Nat := (mail.map List.length).sum
structure GoodS (j : Jb) (s : Stt) : Prop where
  step0 : 0 ≤ s.step
  step1 : s.step ≤ 100000
  vlen : (s.vals.length : Int) = j.n
  mlen : (s.mail.length : Int) = j.n
  fd : (s.fresh && s.done) = false
  phase : s.phase = 0 ∨ (s.phase = 1 ∧ j.kind = 3)
  val : ∀ x ∈ s.vals, valB j.kind x = true
  sorted : ∀ l ∈ s.mail, l.Pairwise (· ≤ ·)
  range : ∀ l ∈ s.mail, ∀ m ∈ l, 0 ≤ m ∧ m ≤ topG j.kind
  few : total s.mail ≤ 5000
  none_ : total s.mail = 0 ∨ (s.fresh = false ∧ s.done = false)

/-- v reads as a list of lists of numbers. -/
def Mx (w : World) (B : Nat) (v : Value) (ls : List (List Int)) : Prop :=
  ∃ vs : List Value, vs.length = ls.length ∧ Sl 1 (fun u => [u]) w B v vs ∧ ∀ (i : Nat) u l, vs[i]? = some u → ls[i]? = some l → Sl 1 encN w B u l
theorem Mx.below {w w' : World} {B : Nat} {v : Value} {ls : List (List Int)} (h : Mx w B v ls) (hb : Below B w w') : Mx w' B v ls := by
  obtain ⟨vs, h1, h2, h3⟩ := h
  exact ⟨vs, h1, h2.below hb, fun i u l hu hl => (h3 i u l hu hl).below hb⟩
theorem Mx.more {w : World} {B B' : Nat} {v : Value} {ls : List (List Int)} (h : Mx w B v ls) (hB : B ≤ B') : Mx w B' v ls := by
  obtain ⟨vs, h1, h2, h3⟩ := h
  exact ⟨vs, h1, h2.more hB, fun i u l hu hl => (h3 i u l hu hl).more hB⟩
theorem Mx.old {w w' : World} {v : Value} {ls : List (List Int)} (h : Mx w w.heap.size v ls) (hb : Below w.heap.size w w') : Mx w' w'.heap.size v ls := (h.below hb).more hb.size
theorem Sl.old {α : Type} {sz : Nat} {enc : α → List Value} {w w' : World} {v : Value} {l : List α} (h : Sl sz enc w w.heap.size v l) (hb : Below w.heap.size w w') : Sl sz enc w' w'.heap.size v l := (h.below hb).more hb.size

/-- A job's cells, a state's cells. -/
def jobV (j : Jb) (ev : Value) : Array Value := #[.int .i64 j.n, ev, .int .i64 j.kind, .int .i64 j.src]
def stV (s : Stt) (vv mv : Value) : Array Value := #[.int .i64 s.step, .int .i64 s.phase, .bool s.fresh, .bool s.done, vv, mv]
structure StR (w : World) (s : Stt) (vv mv : Value) : Prop where
  vals : Sl 2 encV w w.heap.size vv s.vals
  mail : Mx w w.heap.size mv s.mail
theorem StR.old {w w' : World} {s : Stt} {vv mv : Value} (h : StR w s vv mv) (hb : Below w.heap.size w w') : StR w' s vv mv := ⟨h.vals.old hb, h.mail.old hb⟩

/-- A state that lies in blocks from B on. -/
def FreshSt (B : Nat) (w : World) (s : Stt) (vv mv : Value) : Prop := ∀ W : World, w.heap.size ≤ W.heap.size → (∀ k, B ≤ k → k < w.heap.size → W.heap[k]? = w.heap[k]?) → StR W s vv mv
theorem FreshSt.st {B : Nat} {w : World} {s : Stt} {vv mv : Value} (h : FreshSt B w s vv mv) : StR w s vv mv := h w (Nat.le_refl _) (fun _ _ _ => rfl)
theorem own_from {w W : World} {base B : Nat} {e : TypeId} {sz : Nat} {v : Value} {n : Nat} {xs : List Value} (h : w.ownsRow base e sz v n xs) (hB : B ≤ base) (hk : ∀ k, B ≤ k → k < w.heap.size → W.heap[k]? = w.heap[k]?) : W.ownsRow base e sz v n xs := by
  refine ⟨h.1, ?_⟩
  rcases h.2 with hh | ⟨g, cap, cur, rfl, hb, hg, rest⟩
  · exact .inl hh
  · exact .inr ⟨g, cap, cur, rfl, hb, (hk g (by omega) (Array.getElem?_eq_some_iff.1 hg).1).trans hg, rest⟩
theorem Bk.from {w W : World} {g B : Nat} {t : TypeId} {cs : Array Value} (h : Bk w g t cs) (hB : B ≤ g) (hk : ∀ k, B ≤ k → k < w.heap.size → W.heap[k]? = w.heap[k]?) : Bk W g t cs := (hk g hB h.lt).trans h

set_option maxHeartbeats 1000000 in
theorem rcheck_any (j : Jb) (hj : GoodJ j) (ev : Value) (w : World) (he : Sl 3 encE w w.heap.size ev j.es) :
    Calls Try.prog 23 #[.agg #[.int .i64 j.n, ev, .int .i64 j.kind, .int .i64 j.src]] w fun e w' => e = .returned (.int .i64 0) ∧ Below w.heap.size w w' := by
  have CK := Lib.hid (fun W => check_in j.n j.es ev w W he)
  have H0 := Lib.hid hj.g
  have hk := hj.kind
  have hs := hj.src
  obtain ⟨n, es, kind, src⟩ := j
  simp only at hk hs H0 ⊢
  clear hj he
  rcases hk with rfl | rfl | rfl
  · obtain ⟨s0, s1⟩ := hs rfl
    have t1 : decide (src < 0) = false := by simp; omega
    have t2 : decide (n ≤ src) = false := by simp; omega
    go_enter Try.func23, Try.ntmps23
    go_wp2_with fail
    refine (CK.out _ (Below.of_alloc _ _)).mono ?_
    rintro e w1 ⟨rfl, hb1⟩
    rw [H0.out]
    have bx := (Bk.new w 27 #[.int .i64 n, ev, .int .i64 1, .int .i64 src]).old hb1
    have c0 := bx.cell 0
    have c2 := bx.cell 2
    have c3 := bx.cell 3
    simp only [List.getElem?_toArray] at c0 c2 c3
    have HB := Lib.hid ((Below.of_alloc w _).trans (hb1.mono (by simp)))
    clear hb1 bx
    go_wp2
    go_ret
    exact ⟨rfl, HB.out⟩
  all_goals
    clear hs
    go_enter Try.func23, Try.ntmps23
    go_wp2_with fail
    refine (CK.out _ (Below.of_alloc _ _)).mono ?_
    rintro e w1 ⟨rfl, hb1⟩
    rw [H0.out]
    first
      | have bx := (Bk.new w 27 #[.int .i64 n, ev, .int .i64 2, .int .i64 src]).old hb1
      | have bx := (Bk.new w 27 #[.int .i64 n, ev, .int .i64 3, .int .i64 src]).old hb1
    have c0 := bx.cell 0
    have c2 := bx.cell 2
    have c3 := bx.cell 3
    simp only [List.getElem?_toArray] at c0 c2 c3
    have HB := Lib.hid ((Below.of_alloc w _).trans (hb1.mono (by simp)))
    clear hb1 bx
    go_wp2
    go_ret
    exact ⟨rfl, HB.out⟩
end Go.Proofs.Ytbholafggbdieaa
