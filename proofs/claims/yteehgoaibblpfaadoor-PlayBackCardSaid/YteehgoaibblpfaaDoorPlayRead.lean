/- play.Read. -/
import Derived.Test.YteehgoaibblpfaaDoorPlayShow
namespace Go.Proofs.YteehgoaibblpfaaDoor
open Go.RowKit
attribute [local go_sem] Oper.semAt_some

theorem infoMove : (Tryd.prog.info? 37).map (fun i => (i.zero, i.size, i.bytes)) = some (some (.agg #[.int .i64 0, .int .i64 0, .int .i64 0]), 3, 24) := by kernel_rfl

/-- A line that is a move's. -/
def okLine (l : List UInt8) : Bool := (lineR (moveG l)).2 == 0 && mlineT (moveG l) == l
def movesL (ls : List (List UInt8)) : List Mv := ls.map moveG
theorem movesL_snoc (ls : List (List UInt8)) (l : List UInt8) : movesL (ls ++ [l]) = movesL ls ++ [moveG l] := by simp [movesL]

structure PI (w : World) (pre : List ByteArray) (W : World) : Prop where
  below : Below w.heap.size w W
  size : w.heap.size + 4 ≤ W.heap.size
  res : Bk W w.heap.size 35 #[.slice none 0 0]
  err : Bk W (w.heap.size + 1) 25 #[.int .i64 0]
  l : ∃ v, Bk W (w.heap.size + 1 + 1) 35 #[v] ∧ W.ownsRow (w.heap.size + 4) 37 3 v (movesL (pre.map (·.data.toList))).length ((movesL (pre.map (·.data.toList))).flatMap encM)
  ok : ∀ x ∈ pre, okLine x.data.toList = true

def PX (w : World) (c : Code) (pre : List ByteArray) (W : World) : Prop :=
  c = .ret ∧ Below w.heap.size w W ∧ w.heap.size + 4 ≤ W.heap.size ∧ Bk W w.heap.size 35 #[.slice none 0 0] ∧ Bk W (w.heap.size + 1) 25 #[.int .i64 3] ∧ ∃ x ∈ pre, okLine x.data.toList = false

theorem pi_start {s : ByteArray} {w W0 : World} (hW0 : W0 = (((w.alloc (.cells #[.slice none 0 0] 35)).alloc (.cells #[.int .i64 0] 25)).alloc (.cells #[.slice none 0 0] 35)).alloc (.cells #[.string s] 9)) : PI w [] W0 := by
  subst hW0
  refine ⟨(((Below.of_alloc _ _).alloc (by simp) _).alloc (by simp; omega) _).alloc (by simp; omega) _, by simp, ((Bk.new _ _ _).alloc _ |>.alloc _).alloc _, ?_, ⟨_, ?_, World.ownsRow_nil _ _ _ _⟩, by simp⟩
  · have := ((Bk.new (w.alloc (.cells #[.slice none 0 0] 35)) 25 #[.int .i64 0]).alloc (.cells #[.slice none 0 0] 35)).alloc (.cells #[.string s] 9)
    rw [World.size_alloc] at this
    exact this
  · have := (Bk.new ((w.alloc (.cells #[.slice none 0 0] 35)).alloc (.cells #[.int .i64 0] 25)) 35 #[.slice none 0 0]).alloc (.cells #[.string s] 9)
    rw [World.size_alloc, World.size_alloc] at this
    exact this

theorem pi_own {w W0 : World} (hz : W0.heap.size = w.heap.size + 4) : OwnX (w.heap.size + 1 + 1 + 1) W0.heap.size (PI w) := by
  intro pre W W' row h hg hr
  have hrow : ∀ r, row = some r → w.heap.size + 3 ≤ r := fun r e => by rcases hr r e with h | ⟨h, _⟩ <;> omega
  obtain ⟨v, h1, h2⟩ := h.l
  refine ⟨h.below.grown hg (by have := h.size; omega) (fun r e => by have := hrow r e; omega), Nat.le_trans h.size hg.size, bk_keep h.res hg (fun r e => by have := hrow r e; omega), bk_keep h.err hg (fun r e => by have := hrow r e; omega),
    ⟨v, bk_keep h1 hg (fun r e => by have := hrow r e; omega), own_keep h2 hg (fun r e => ?_)⟩, h.ok⟩
  rcases hr r e with h | ⟨_, h⟩
  · exact .inl (by omega)
  · exact .inr h
theorem px_own {w W0 : World} (hz : W0.heap.size = w.heap.size + 4) (c : Code) : OwnX (w.heap.size + 1 + 1 + 1) W0.heap.size (PX w c) := by
  intro pre W W' row h hg hr
  have hrow : ∀ r, row = some r → w.heap.size + 3 ≤ r := fun r e => by rcases hr r e with h | ⟨h, _⟩ <;> omega
  obtain ⟨h1, h2, h3, h4, h5, h6⟩ := h
  exact ⟨h1, h2.grown hg (by omega) (fun r e => by have := hrow r e; omega), Nat.le_trans h3 hg.size, bk_keep h4 hg (fun r e => by have := hrow r e; omega), bk_keep h5 hg (fun r e => by have := hrow r e; omega), h6⟩
theorem pi_keep {w W W' : World} {pre : List ByteArray} (h : PI w pre W) (hb : Below W.heap.size W W') : PI w pre W' := by
  obtain ⟨v, h1, h2⟩ := h.l
  exact ⟨h.below.trans (hb.mono h.below.size), Nat.le_trans h.size hb.size, h.res.old hb, h.err.old hb, ⟨v, h1.old hb, own_old h2 hb⟩, h.ok⟩

theorem px_ret {w W w2 : World} {pre : List ByteArray} {x : ByteArray} {B : Nat} (h : PI w pre w2) (hb : Below W.heap.size W w2) (hx : okLine x.data.toList = false) :
    KeepsFrom B W ((w2.setCell ⟨w.heap.size, 0, none⟩ (.slice none 0 0)).setCell ⟨w.heap.size + 1, 0, none⟩ (.int .i64 3)) ∧
    PX w .ret (pre ++ [x]) ((w2.setCell ⟨w.heap.size, 0, none⟩ (.slice none 0 0)).setCell ⟨w.heap.size + 1, 0, none⟩ (.int .i64 3)) := by
  refine ⟨(show KeepsFrom B W w2 from ⟨hb.size, fun k o _ hk _ => (hb.block k (Array.getElem?_eq_some_iff.1 hk).1).trans hk⟩).trans (((KeepsOthers.setCell _ _ _).from _).trans ((KeepsOthers.setCell _ _ _).from _)), rfl, ?_, ?_, ?_, ?_, x, by simp, hx⟩
  · exact (h.below.setCell (p := ⟨w.heap.size, 0, none⟩) (by simp) _).setCell (p := ⟨w.heap.size + 1, 0, none⟩) (by simp) _
  · simpa [World.setCell] using h.size
  · exact (h.res.set 0 _).far (by simp) _
  · exact (h.err.far (by simp) _).set 0 _

theorem pi_app {w W Wd W2 : World} {pre : List ByteArray} {x : ByteArray} {v v2 : Value} {ms : List Mv} {m : Mv} {o : Obj} {B X : Nat} (h : PI w pre Wd) (hg : Bk Wd (w.heap.size + 1 + 1) 35 #[v])
    (hvb : ∀ k, v.ownBlock = some k → w.heap.size + 4 ≤ k ∧ ∃ c : Obj, (Wd.alloc o).heap[k]? = some c ∧ c.isCells = true) (ho : W2.ownsRow (w.heap.size + 4) 37 3 v2 (ms.length + 1) (ms.flatMap encM ++ encM m)) (hgr : (Wd.alloc o).grownBy W2 v.ownBlock)
    (hms : movesL (pre.map (·.data.toList)) = ms) (hm : moveG x.data.toList = m) (hok : okLine x.data.toList = true) (hX : X = w.heap.size + 1 + 1 + 1) (hb : Below W.heap.size W Wd) (hW : w.heap.size + 4 ≤ W.heap.size) :
    KeepsFrom B W (W2.setCell ⟨w.heap.size + 1 + 1, 0, none⟩ v2) ∧ KpX X W (W2.setCell ⟨w.heap.size + 1 + 1, 0, none⟩ v2) ∧ PI w (pre ++ [x]) (W2.setCell ⟨w.heap.size + 1 + 1, 0, none⟩ v2) := by
  have e' : movesL ((pre ++ [x]).map (·.data.toList)) = ms ++ [m] := by rw [List.map_append, ← hms, ← hm]; exact movesL_snoc _ _
  have hz := h.size
  have hne : ∀ g, g < w.heap.size + 4 → some g ≠ v.ownBlock := fun g hg e => by have := (hvb _ e.symm).1; omega
  refine ⟨?_, ?_, ?_, ?_, ?_, ?_, ⟨v2, ?_, ?_⟩, ?_⟩
  · exact (show KeepsFrom B W Wd from ⟨hb.size, fun k o _ hk _ => (hb.block k (Array.getElem?_eq_some_iff.1 hk).1).trans hk⟩).trans (((KeepsOthers.alloc _ _).from _).trans (((KeepsOthers.of_grownBy hgr (fun j o e ho => by obtain ⟨c, hc, hcc⟩ := (hvb j e).2; rw [hc] at ho; cases ho; exact hcc)).from _).trans ((KeepsOthers.setCell _ _ _).from _)))
  · subst hX
    have hlt : w.heap.size + 1 + 1 + 1 < Wd.heap.size := by omega
    refine kpx_t ⟨hb.size, hb.block _ (by omega)⟩ ⟨?_, ?_⟩
    · have := hgr.size; simp [World.setCell] at this ⊢; omega
    · rw [Below.heap_setCell _ _ _ _ (by simp), hgr.block _ (by simp; omega) (hne _ (by omega))]
      exact Below.heap_alloc _ _ _ hlt
  · exact ((h.below.alloc h.below.size _).grown hgr (by have := h.below.size; simp; omega) (fun k e => by have := (hvb k e).1; omega)).setCell (p := ⟨w.heap.size + 1 + 1, 0, none⟩) (by simp; omega) _
  · have := hgr.size; simp [World.setCell] at this ⊢; omega
  · exact ((h.res.alloc _).grown hgr (hne _ (by omega))).far (by simp; omega) _
  · exact ((h.err.alloc _).grown hgr (hne _ (by omega))).far (by simp) _
  · exact ((hg.alloc _).grown hgr (hne _ (by omega))).set 0 _
  · rw [e']
    simp only [List.length_append, List.length_cons, List.length_nil, List.flatMap_append, List.flatMap_cons, List.flatMap_nil, List.append_nil]
    exact own_keep ho (grown_setCell _ _ _) (fun r e => by cases e; exact .inl (by simp <;> omega))
  · intro y hy
    rcases List.mem_append.1 hy with hy | hy
    · exact h.ok y hy
    · simp at hy; subst hy; exact hok

/-- What Read answers: the moves whose text this is; or what is wrong. -/
def okPlay (s : ByteArray) : Bool := (linesL s.data.toList).all okLine && decide ((linesL s.data.toList).length ≤ 100000)
def PlayR (s : ByteArray) (w w' : World) (e : Ending) : Prop :=
  (if okPlay s then ∃ v, e = .returned (.tuple #[v, .int .i64 0]) ∧ Sl 3 encM w' w'.heap.size v (movesL (linesL s.data.toList))
    else ∃ n : Int, e = .returned (.tuple #[.slice none 0 0, .int .i64 n]) ∧ (n != 0) = true) ∧ Below w.heap.size w w'

theorem pend_facts {w W : World} {D : Nat} {x y : Value} (a b : Value) (hW : Below w.heap.size w W) (hr : Bk W w.heap.size 35 #[x]) (he : Bk W (w.heap.size + 1) 25 #[y]) (hK : W.heap[D]? = some (.deferred (some []))) (hD : w.heap.size + 4 ≤ D) :
    ((W.setCell ⟨w.heap.size, 0, none⟩ a).setCell ⟨w.heap.size + 1, 0, none⟩ b).heap[D]? = some (.deferred (some [])) ∧
    Bk (((W.setCell ⟨w.heap.size, 0, none⟩ a).setCell ⟨w.heap.size + 1, 0, none⟩ b).putObj D (.deferred none)) w.heap.size 35 #[a] ∧
    Bk (((W.setCell ⟨w.heap.size, 0, none⟩ a).setCell ⟨w.heap.size + 1, 0, none⟩ b).putObj D (.deferred none)) (w.heap.size + 1) 25 #[b] ∧
    Below w.heap.size w (((W.setCell ⟨w.heap.size, 0, none⟩ a).setCell ⟨w.heap.size + 1, 0, none⟩ b).putObj D (.deferred none)) ∧
    (∀ {e : TypeId} {sz n : Nat} {v : Value} {xs : List Value}, W.ownsRow (w.heap.size + 4) e sz v n xs → (((W.setCell ⟨w.heap.size, 0, none⟩ a).setCell ⟨w.heap.size + 1, 0, none⟩ b).putObj D (.deferred none)).ownsRow (w.heap.size + 4) e sz v n xs) := by
  have h1 : ((W.setCell ⟨w.heap.size, 0, none⟩ a).setCell ⟨w.heap.size + 1, 0, none⟩ b).heap[D]? = some (.deferred (some [])) := by
    rw [Below.heap_setCell _ _ _ _ (by simp; omega), Below.heap_setCell _ _ _ _ (by simp; omega)]; exact hK
  have hlt : D < W.heap.size := (Array.getElem?_eq_some_iff.1 hK).1
  refine ⟨h1, ((hr.set 0 a).far (by simp) b).grown (grownBy_putObj' _ _ _) (fun e => by injection e; omega), ((he.far (by simp) a).set 0 b).grown (grownBy_putObj' _ _ _) (fun e => by injection e; omega), ?_, fun ho => ?_⟩
  · refine ((hW.setCell (p := ⟨w.heap.size, 0, none⟩) (by simp) a).setCell (p := ⟨w.heap.size + 1, 0, none⟩) (by simp) b).grown (grownBy_putObj' _ D _) ?_ (fun k e => by cases e; omega)
    simp [World.setCell]; omega
  · refine own_keep (own_keep (own_keep ho (grown_setCell _ _ _) (fun r e => by cases e; exact .inl (by simp))) (grown_setCell _ _ _) (fun r e => by cases e; exact .inl (by simp))) (grownBy_putObj' _ D _) (fun r e => by cases e; exact .inr ⟨_, h1, rfl⟩)

set_option maxRecDepth 100000 in
set_option maxHeartbeats 1000000 in
theorem pread_body (s : ByteArray) (hs : s.size ≤ 5000000) (w : World) (hE : Env w) (hF : Forms w) :
    Calls Tryd.prog 13 #[.string s] w fun e w' => PlayR s w w' e := by
  refine (callsIn_wide (n := 10)).1 ?_
  refine callsIn_of_wp_marks Tryd.func13 rfl trivial ?_ rfl
  simp only [Tryd.ntmps13, List.size_toArray, List.length_cons, List.length_nil, Nat.reduceAdd, Nat.reduceSub, Array.replicate_succ, Array.replicate_zero, List.push_toArray, List.append_toArray, List.nil_append, List.cons_append]
  have hE2 := Lib.hid hE; clear hE
  have hF2 := Lib.hid hF; clear hF
  obtain ⟨i0, hi0, hz0', hz1, hz2⟩ := info_parts infoMove
  have hs2 : decide ((5000000 : Int) < (s.size : Int)) = false := by simp; omega
  gi_wp2_with (refine ⟨trivial, ?_⟩; gi_at_call 20; refine (callsIn_wide.2 (lines_is s _)).mono ?_; rintro e w' ⟨rfl, rfl⟩)
  obtain ⟨W0, hW0⟩ : ∃ W0, W0 = (((w.alloc (.cells #[.slice none 0 0] 35)).alloc (.cells #[.int .i64 0] 25)).alloc (.cells #[.slice none 0 0] 35)).alloc (.cells #[.string s] 9) := ⟨_, rfl⟩
  have hz0 : W0.heap.size = w.heap.size + 4 := by rw [hW0]; simp
  rw [← hW0]
  have hbX : Bk W0 (w.heap.size + 1 + 1 + 1) 9 #[.string s] := by rw [hW0]; simpa using Bk.new (((w.alloc (.cells #[.slice none 0 0] 35)).alloc (.cells #[.int .i64 0] 25)).alloc (.cells #[.slice none 0 0] 35)) 9 #[.string s]
  have hI0 : PI w [] W0 := pi_start hW0
  clear hW0
  refine wpIn_rangeX rfl (by decide) (gf := 27) (lb := #[.pointer (some ⟨w.heap.size + 1 + 1 + 1, 0, none⟩)]) rfl trivial (enters_of Tryd.func27 (by kernel_rfl) rfl)
    (X := w.heap.size + 1 + 1 + 1) (by omega) (lines_seq 9 (w.heap.size + 1 + 1 + 1) (by decide) s (by omega) W0 hbX) kpx_t (kpx_b (by omega)) (Below.refl _ _) (fun _ => rfl)
    (PI w) (PX w) (pi_own hz0) (px_own hz0) hI0
    (fun x => { tmps := #[.string s, undef, .pointer (some ⟨w.heap.size, 0, none⟩), .pointer (some ⟨w.heap.size + 1, 0, none⟩), .pointer (some ⟨w.heap.size + 1 + 1, 0, none⟩), .string x, undef, undef, undef, .string s, .int .i64 s.size, .bool false, .string s,
      .func (.func 27) #[] #[.pointer (some ⟨w.heap.size + 1 + 1 + 1, 0, none⟩)], .string x, undef, undef, undef, undef, undef, undef, undef, undef, undef, undef, undef, undef, undef, undef, undef, undef, undef, undef, undef, undef, undef, undef], defers := [] }) ?assign ?body ?done ?stop
  case assign =>
    intro l x W K hK
    gi_wp2
    exact hK
  case body =>
    rintro l pre x W hi ⟨q, hq⟩
    have hxs : x.size ≤ 5000000 := by
      have : x.data.toList ∈ linesL s.data.toList := by rw [← hq]; simp
      have := linesL_le this
      simp at this; omega
    have HEL : Hid ((movesL (pre.map (·.data.toList))).length ≤ 5000000) := by
      have h2 : pre.length ≤ (linesL s.data.toList).length := by rw [← hq]; simp <;> omega
      have h3 := linesL_count s.data.toList
      simp at h3
      unfold Hid movesL; simp; omega
    clear hq
    have hW := hi.below
    have hsz := hi.size
    have mv := move_any x hxs W (hE2.out.keep hW) (hF2.out.keep hW)
    generalize hm : moveG x.data.toList = m at mv
    have HM := Lib.hid hm; clear hm
    obtain ⟨k, a, p⟩ := m
    simp only [encM] at mv
    have MV := Lib.hid mv; clear mv
    have LN := Lib.hid (fun W' (hb : Below w.heap.size w W') => mline_any ⟨k, a, p⟩ W' (hF2.out.keep hb) (hE2.out.keep hb).pow)
    have HI := Lib.hid hi; clear hi
    generalize hr : lineR ⟨k, a, p⟩ = r at *
    have HR := Lib.hid hr; clear hr
    obtain ⟨t, er⟩ := r
    cases hL0 : (er != 0)
    · have HL0 := Lib.hid hL0
      cases hT : (t == x.toList)
      · have hT2 : (t != x.toList) = true := by simpa using hT
        have HT := Lib.hid hT
        gi_wp2_with (first
          | (refine ⟨trivial, ?_⟩; gi_at_call 24; refine (CallsIn.inRound l (callsIn_wide.2 MV.out)).mono ?_; refine Hid.out ?_))
        refine Lib.hid ?_
        rintro e w1 rfl hb1
        have hb01 := hW.trans (hb1.mono hW.size)
        gi_wp2_with (first
          | (refine ⟨trivial, ?_⟩; gi_at_call 23; refine (CallsIn.inRound l (callsIn_wide.2 (LN.out _ (hb01.alloc hb01.size _)))).mono ?_; refine Hid.out ?_))
        refine Lib.hid ?_
        rintro e w2 ⟨rfl, hb2⟩
        have hb12 : Below w1.heap.size w1 w2 := (Below.of_alloc _ _).trans (hb2.mono (by simp))
        have hb02 : Below W.heap.size W w2 := hb1.trans (hb12.mono hb1.size)
        have hi2 : PI w pre w2 := pi_keep HI.out hb02
        have r0 := hi2.res.cell 0
        have fr := hi2.res.froz 0
        have e0 := hi2.err.cell 0
        have fe := hi2.err.froz 0
        simp only [List.getElem?_toArray] at r0 e0
        have HI2 := Lib.hid hi2
        have HB02 := Lib.hid hb02
        clear hi2 hb02
        gi_wp2
        exact px_ret HI2.out HB02.out (by unfold okLine mlineT; rw [HM.out, HR.out]; have := HT.out; rw [toList_eq] at this; simp [this])
      · have hT2 : (t != x.toList) = false := by simpa using hT
        have HT := Lib.hid hT
        gi_wp2_with (first
          | (refine ⟨trivial, ?_⟩; gi_at_call 24; refine (CallsIn.inRound l (callsIn_wide.2 MV.out)).mono ?_; refine Hid.out ?_))
        refine Lib.hid ?_
        rintro e w1 rfl hb1
        have hb01 := hW.trans (hb1.mono hW.size)
        gi_wp2_with (first
          | (refine ⟨trivial, ?_⟩; gi_at_call 23; refine (CallsIn.inRound l (callsIn_wide.2 (LN.out _ (hb01.alloc hb01.size _)))).mono ?_; refine Hid.out ?_))
        refine Lib.hid ?_
        rintro e w2 ⟨rfl, hb2⟩
        have hb12 : Below w1.heap.size w1 w2 := (Below.of_alloc _ _).trans (hb2.mono (by simp))
        have hb02 : Below W.heap.size W w2 := hb1.trans (hb12.mono hb1.size)
        have hi2 : PI w pre w2 := pi_keep HI.out hb02
        obtain ⟨v, hg, hown⟩ := hi2.l
        have hvb : ∀ k, v.ownBlock = some k → w.heap.size + 4 ≤ k ∧ k < w2.heap.size := hown.lt
        have lc := hg.cell 0
        simp only [List.getElem?_toArray] at lc
        have mb := (Bk.new w1 37 #[.int .i64 k, .int .i64 a, .int .i64 p]).old hb2
        have m0 := mb.cell 0
        have m1 := mb.cell 1
        have m2 := mb.cell 2
        simp only [List.getElem?_toArray] at m0 m1 m2
        have hsz2 := hi2.size
        have HI2 := Lib.hid hi2
        have HB02 := Lib.hid hb02
        clear hi2 hb02 mb
        generalize hms : movesL (pre.map (·.data.toList)) = ms at *
        have HMS := Lib.hid hms; clear hms
        have hel := HEL.out
        gi_wp2_with (first
          | (gi_at_builtin; refine wpListIn_append_own _ rfl _ _ 35 rfl (w.heap.size + 4) 37 i0 (.agg #[.int .i64 0, .int .i64 0, .int .i64 0]) 3 24 Tryd.underlying35 hi0 hz0' hz1 hz2 rfl (by decide) v ms.length (ms.flatMap encM) rfl (own_old hown (Below.of_alloc _ _)) ⟨w2.heap.size, 0, none⟩ 1 1 (encM ⟨k, a, p⟩) rfl rfl ?_ ?_ ?_ ?_ ?_ ?_))
        · intro j u hj
          have := (Bk.new w2 37 #[.int .i64 k, .int .i64 a, .int .i64 p]).cell j
          rw [show (⟨w2.heap.size, 0, none⟩ : Addr).add j = ⟨w2.heap.size, j, none⟩ by unfold Addr.add; split <;> simp_all, this]
          simpa [encM] using hj
        · intro u hu
          simp [encM] at hu
          rcases hu with rfl | rfl | rfl <;> rfl
        · unfold maxLen; omega
        · omega
        · simp; omega
        intro v2 W2 hown2 hgrow hat
        have hne1 : some (w.heap.size + 1 + 1) ≠ v.ownBlock := fun e => by have := hvb _ e.symm; omega
        have hg2 : Bk W2 (w.heap.size + 1 + 1) 35 #[v] := (hg.alloc _).grown hgrow hne1
        have lc2 := hg2.cell 0
        have lf2 := hg2.froz 0
        simp only [List.getElem?_toArray] at lc2
        have hv2 : ∃ A2 c2, v2 = .slice A2 (ms.length + 1) c2 := by
          rcases hown2.2 with ⟨rfl, h0⟩ | ⟨_, _, _, rfl, _⟩
          · omega
          · exact ⟨_, _, rfl⟩
        obtain ⟨A2, c2, rfl⟩ := hv2
        have HP := Lib.hid (pi_app (B := w.heap.size + 4) (X := w.heap.size + 1 + 1 + 1) (x := x) (m := ⟨k, a, p⟩) HI2.out hg (fun k e => ⟨(hvb k e).1, by
          rcases hown.2 with ⟨rfl, _⟩ | ⟨g', cap, cur, rfl, _, hgg, _⟩
          · simp [Value.ownBlock] at e
          · simp [Value.ownBlock] at e; subst e; exact ⟨_, (Below.heap_alloc _ _ _ (Array.getElem?_eq_some_iff.1 hgg).1).trans hgg, rfl⟩⟩) hown2 hgrow HMS.out HM.out
          (by unfold okLine mlineT; rw [HM.out, HR.out]; have := HT.out; rw [toList_eq] at this; have h0 := HL0.out; simp at h0; simp [this, h0]) rfl HB02.out hsz)
        clear hown2 hgrow hat hown hel hg2 hvb hg
        gi_wp2
        exact HP.out
    · have HL0 := Lib.hid hL0
      gi_wp2_with (first
        | (refine ⟨trivial, ?_⟩; gi_at_call 24; refine (CallsIn.inRound l (callsIn_wide.2 MV.out)).mono ?_; refine Hid.out ?_))
      refine Lib.hid ?_
      rintro e w1 rfl hb1
      have hb01 := hW.trans (hb1.mono hW.size)
      gi_wp2_with (first
        | (refine ⟨trivial, ?_⟩; gi_at_call 23; refine (CallsIn.inRound l (callsIn_wide.2 (LN.out _ (hb01.alloc hb01.size _)))).mono ?_; refine Hid.out ?_))
      refine Lib.hid ?_
      rintro e w2 ⟨rfl, hb2⟩
      have hb12 : Below w1.heap.size w1 w2 := (Below.of_alloc _ _).trans (hb2.mono (by simp))
      have hb02 : Below W.heap.size W w2 := hb1.trans (hb12.mono hb1.size)
      have hi2 : PI w pre w2 := pi_keep HI.out hb02
      have r0 := hi2.res.cell 0
      have fr := hi2.res.froz 0
      have e0 := hi2.err.cell 0
      have fe := hi2.err.froz 0
      simp only [List.getElem?_toArray] at r0 e0
      have HI2 := Lib.hid hi2
      have HB02 := Lib.hid hb02
      clear hi2 hb02
      gi_wp2
      exact px_ret HI2.out HB02.out (by unfold okLine; rw [HM.out, HR.out]; have := HL0.out; simp at this; simp [this])
  case done =>
    rintro D xs W hD hxs hi hK
    have hW := hi.below
    have hsz := hi.size
    have r0 := hi.res.cell 0
    have fr := hi.res.froz 0
    have e0 := hi.err.cell 0
    have fe := hi.err.froz 0
    obtain ⟨v, hg, hown⟩ := hi.l
    have hall : (linesL s.data.toList).all okLine = true := by
      rw [← hxs, List.all_eq_true]
      intro l hl
      obtain ⟨y, hy, rfl⟩ := List.mem_map.1 hl
      exact hi.ok y hy
    rw [hxs] at hown
    have lc := hg.cell 0
    simp only [List.getElem?_toArray] at r0 e0 lc
    have hlen : (movesL (linesL s.data.toList)).length = (linesL s.data.toList).length := by simp [movesL]
    have HALL := Lib.hid hall
    have HLEN := Lib.hid hlen
    have HO := Lib.hid hown
    obtain ⟨A, c, rfl, _⟩ : ∃ A c, v = .slice A (movesL (linesL s.data.toList)).length c ∧ True := by obtain ⟨A, c, e, _⟩ := Sl.of_own (enc := encM) (fun _ => rfl) hown; exact ⟨A, c, e, trivial⟩
    clear hall hlen hown hxs hg
    generalize hn : (movesL (linesL s.data.toList)).length = n at *
    have HN := Lib.hid hn; clear hn
    cases h5 : decide ((100000 : Int) < (n : Int))
    · have H5 := Lib.hid h5
      obtain ⟨e1, e2, e3, e4, e5⟩ := pend_facts (.slice A n c) (.int .i64 0) hW hi.res hi.err hK (by omega)
      have E1 := Lib.hid e1; have E2 := Lib.hid e2; have E3 := Lib.hid e3; have E4 := Lib.hid e4; have E5 := Lib.hid (e5 HO.out); clear e1 e2 e3 e4 e5 hi
      gi_wp2
      refine ⟨by simp, .inl ⟨_, _, rfl, run_takeDeferred E1.out, ?_⟩⟩
      have d0 := E2.out.cell 0
      have d1 := E3.out.cell 0
      simp only [List.getElem?_toArray] at d0 d1
      refine ⟨.tuple #[(.slice A n c), (.int .i64 0)], ?_, ?_, E4.out⟩
      · simp [results, Tryd.f13, go_sem, d0, d1]
      · rw [if_pos (by unfold okPlay; rw [HALL.out]; have := H5.out; simp at this; simp; have := HLEN.out; omega)]
        refine ⟨_, rfl, Sl.of_own (base := w.heap.size + 4) (e := 37) (fun _ => rfl) ?_⟩
        rw [HN.out]; exact E5.out
    · have H5 := Lib.hid h5
      obtain ⟨e1, e2, e3, e4, e5⟩ := pend_facts (.slice none 0 0) (.int .i64 1) hW hi.res hi.err hK (by omega)
      have E1 := Lib.hid e1; have E2 := Lib.hid e2; have E3 := Lib.hid e3; have E4 := Lib.hid e4; have E5 := Lib.hid (e5 HO.out); clear e1 e2 e3 e4 e5 hi
      gi_wp2
      refine ⟨by simp, .inl ⟨_, _, rfl, run_takeDeferred E1.out, ?_⟩⟩
      have d0 := E2.out.cell 0
      have d1 := E3.out.cell 0
      simp only [List.getElem?_toArray] at d0 d1
      refine ⟨.tuple #[(.slice none 0 0), (.int .i64 1)], ?_, ?_, E4.out⟩
      · simp [results, Tryd.f13, go_sem, d0, d1]
      · rw [if_neg (by unfold okPlay; rw [HALL.out]; have := H5.out; simp at this; simp; have := HLEN.out; omega)]
        exact ⟨1, rfl, rfl⟩
  case stop =>
    rintro D c pre W hD ⟨q, hq⟩ ⟨rfl, hW, hsz, hr, he, x, hx, hbad⟩ hK
    have r0 := hr.cell 0
    have e0 := he.cell 0
    simp only [List.getElem?_toArray] at r0 e0
    have hb : okPlay s = false := by
      unfold okPlay
      rw [show (linesL s.data.toList).all okLine = false from List.all_eq_false.2 ⟨x.data.toList, by rw [← hq]; exact List.mem_append_left _ (List.mem_map.2 ⟨x, hx, rfl⟩), by simp [hbad]⟩]
      rfl
    have HB := Lib.hid hb
    clear hb
    have HK := Lib.hid hK
    have HD := Lib.hid hD
    gi_wp2
    refine ⟨by simp, .inl ⟨_, _, rfl, run_takeDeferred HK.out, ?_⟩⟩
    have hne : D ≠ w.heap.size ∧ D ≠ w.heap.size + 1 := ⟨by have := HD.out; omega, by have := HD.out; omega⟩
    have d0 := (hr.grown (grownBy_putObj' W D (.deferred none)) (fun e => hne.1 (by injection e with e; exact e.symm))).cell 0
    have d1 := (he.grown (grownBy_putObj' W D (.deferred none)) (fun e => hne.2 (by injection e with e; exact e.symm))).cell 0
    simp only [List.getElem?_toArray] at d0 d1
    refine ⟨.tuple #[.slice none 0 0, .int .i64 3], ?_, ?_, hW.grown (grownBy_putObj' _ D _) (by omega) (fun k e => by cases e; have := HD.out; omega)⟩
    · simp [results, Tryd.f13, go_sem, d0, d1]
    · rw [if_neg (by rw [HB.out]; simp)]
      exact ⟨3, rfl, rfl⟩
end Go.Proofs.YteehgoaibblpfaaDoor
