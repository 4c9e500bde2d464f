/- sheet.Read. -/
import Derived.Test.YteehgoaibblpfaaDoorLines
import Derived.Test.YteehgoaibblpfaaDoorNumbers
import Derived.Test.YteehgoaibblpfaaDoorShow
import Derived.Deep.RegionHeld
namespace Go.Proofs.YteehgoaibblpfaaDoor
open Go.RowKit
attribute [local go_sem] Oper.semAt_some

/-- strings.Lines: the iterator, what is left in a block of its own. -/
theorem lines_is (s : ByteArray) (w : World) :
    Calls Tryd.prog 20 #[.string s] w fun e w' => e = .returned (.func (.func 27) #[] #[.pointer (some ⟨w.heap.size, 0, none⟩)]) ∧ w' = w.alloc (.cells #[.string s] 9) := by
  go_enter Tryd.func20, Tryd.ntmps20
  go_wp2
  go_ret
  exact ⟨rfl, rfl⟩

theorem kpx_t {X : Nat} {A B C : World} (h : KpX X A B) (k : KpX X B C) : KpX X A C := ⟨Nat.le_trans h.1 k.1, k.2.trans h.2⟩
theorem kpx_b {X : Nat} {w : World} (hX : X < w.heap.size) (W : World) (l : Nat) (o o' : Obj) (hl : w.heap.size ≤ l) (_ : W.heap[l]? = some o) (_ : o.isCells = false) (_ : o.isWalk = false) : KpX X W (W.putObj l o') :=
  ⟨by simp, World.putObj_heap_other (by omega)⟩

theorem lines_seq (n X : Nat) (hn : 1 ≤ n) (s : ByteArray) (hs : s.size ≤ 9223372036854775807) (w : World) (hX : Bk w X 9 #[.string s]) :
    SeqX Fence.wide n Tryd.prog 27 #[.pointer (some ⟨X, 0, none⟩)] (fun x : ByteArray => #[.string x]) X (KpX X)
      (fun xs => xs.map (·.data.toList) = linesL s.data.toList) (fun pre => ∃ q, pre.map (·.data.toList) ++ q = linesL s.data.toList) w :=
  fun l J Jx W hW hJ hJx hY h0 => lines1_in n l X hn s hs J Jx hJ hJx hY W (hX.old hW) h0

/-- The graph that lines tell, as far as they can be read. -/
structure Gr where
  n : Int
  es : List Ed
  first : Bool
def stepG (g : Gr) (l : List UInt8) : Gr :=
  if g.first then { g with n := (numsL l)[0]?.getD 0, first := false }
  else if (numsL l).length = 3 then { g with es := g.es ++ [⟨(numsL l)[0]?.getD 0, (numsL l)[1]?.getD 0, (numsL l)[2]?.getD 0⟩] } else g
def graphL (ls : List (List UInt8)) : Gr := ls.foldl stepG ⟨0, [], true⟩

theorem infoEdge : (Tryd.prog.info? 58).map (fun i => (i.zero, i.size, i.bytes)) = some (some (.agg #[.int .i64 0, .int .i64 0, .int .i64 0]), 3, 24) := by kernel_rfl
theorem graphL_snoc (ls : List (List UInt8)) (l : List UInt8) : graphL (ls ++ [l]) = stepG (graphL ls) l := by simp [graphL]
theorem graphL_len (ls : List (List UInt8)) : (graphL ls).es.length ≤ ls.length := by
  have : ∀ (ls : List (List UInt8)) (g : Gr), (ls.foldl stepG g).es.length ≤ g.es.length + ls.length := by
    intro ls
    induction ls with
    | nil => intro g; simp
    | cons l ls ih =>
      intro g
      have h1 := ih (stepG g l)
      have h2 : (stepG g l).es.length ≤ g.es.length + 1 := by unfold stepG; split <;> (try split) <;> simp
      simp only [List.foldl_cons, List.length_cons]; omega
  simpa [graphL] using this ls ⟨0, [], true⟩
theorem numsL_pos (l : List UInt8) : 0 < (numsL l).length := by
  unfold numsL; rw [List.length_map, wordsL_length, wordsB_length]; omega

structure RI (w : World) (pre : List ByteArray) (W : World) : Prop where
  below : Below w.heap.size w W
  size : w.heap.size + 4 ≤ W.heap.size
  res : Bk W w.heap.size 24 #[.int .i64 0, .slice none 0 0]
  fst : Bk W (w.heap.size + 1 + 1) 4 #[.bool (graphL (pre.map (·.data.toList))).first]
  g : ∃ v, Bk W (w.heap.size + 1) 24 #[.int .i64 (graphL (pre.map (·.data.toList))).n, v] ∧
    W.ownsRow (w.heap.size + 4) 58 3 v (graphL (pre.map (·.data.toList))).es.length ((graphL (pre.map (·.data.toList))).es.flatMap encE)

theorem ri_start {s : ByteArray} {w W0 : World} (hW0 : W0 = (((w.alloc (.cells #[.int .i64 0, .slice none 0 0] 24)).alloc (.cells #[.int .i64 0, .slice none 0 0] 24)).alloc (.cells #[.bool true] 4)).alloc (.cells #[.string s] 9)) : RI w [] W0 := by
  subst hW0
  refine ⟨(((Below.of_alloc _ _).alloc (by simp) _).alloc (by simp; omega) _).alloc (by simp; omega) _, by simp, ((Bk.new _ _ _).alloc _ |>.alloc _).alloc _, ?_, _, ?_, World.ownsRow_nil _ _ _ _⟩
  · have := (Bk.new ((w.alloc (.cells #[.int .i64 0, .slice none 0 0] 24)).alloc (.cells #[.int .i64 0, .slice none 0 0] 24)) 4 #[.bool true]).alloc (.cells #[.string s] 9)
    simpa [graphL] using this
  · have := ((Bk.new (w.alloc (.cells #[.int .i64 0, .slice none 0 0] 24)) 24 #[.int .i64 0, .slice none 0 0]).alloc (.cells #[.bool true] 4)).alloc (.cells #[.string s] 9)
    simpa [graphL] using this

theorem own_keep {w w' : World} {base : Nat} {e : TypeId} {sz : Nat} {v : Value} {n : Nat} {xs : List Value} {row : Option Nat} (h : w.ownsRow base e sz v n xs) (hg : w.grownBy w' row)
    (hr : ∀ r, row = some r → r < base ∨ ∃ o : Obj, w.heap[r]? = some o ∧ o.isCells = false) : w'.ownsRow base e sz v n xs := by
  refine h.kept hg ?_
  rcases h.2 with ⟨rfl, _⟩ | ⟨g, cap, cur, rfl, hb, hgg, _⟩
  · exact .inl rfl
  · refine .inr ?_
    intro e
    simp [Value.ownBlock] at e
    rcases hr g e.symm with h | ⟨o, ho, hc⟩
    · omega
    · rw [hgg] at ho; cases ho; cases hc

theorem bk_keep {w w' : World} {g : Nat} {t : TypeId} {cs : Array Value} {row : Option Nat} (h : Bk w g t cs) (hg : w.grownBy w' row) (hr : ∀ r, row = some r → r ≠ g) : Bk w' g t cs :=
  h.grown hg (fun e => hr g e.symm rfl)

theorem ri_own {w W0 : World} (hz : W0.heap.size = w.heap.size + 4) : OwnX (w.heap.size + 1 + 1 + 1) W0.heap.size (RI w) := by
  intro pre W W' row h hg hr
  have hrow : ∀ r, row = some r → w.heap.size + 3 ≤ r := fun r e => by rcases hr r e with h | ⟨h, _⟩ <;> omega
  obtain ⟨v, h1, h2⟩ := h.g
  refine ⟨h.below.grown hg (by have := h.size; omega) (fun r e => by have := hrow r e; omega), Nat.le_trans h.size hg.size, bk_keep h.res hg (fun r e => by have := hrow r e; omega), bk_keep h.fst hg (fun r e => by have := hrow r e; omega),
    v, bk_keep h1 hg (fun r e => by have := hrow r e; omega), own_keep h2 hg (fun r e => ?_)⟩
  rcases hr r e with h | ⟨_, h⟩
  · exact .inl (by omega)
  · exact .inr h

theorem own_old {w w' : World} {base : Nat} {e : TypeId} {sz : Nat} {v : Value} {n : Nat} {xs : List Value} (h : w.ownsRow base e sz v n xs) (hb : Below w.heap.size w w') : w'.ownsRow base e sz v n xs :=
  h.kept (row := none) (old_below hb) (by cases hv : v.ownBlock <;> simp)
theorem ri_keep {w W W' : World} {pre : List ByteArray} (h : RI w pre W) (hb : Below W.heap.size W W') : RI w pre W' := by
  obtain ⟨v, h1, h2⟩ := h.g
  exact ⟨h.below.trans (hb.mono h.below.size), Nat.le_trans h.size hb.size, h.res.old hb, h.fst.old hb, v, h1.old hb, own_old h2 hb⟩

theorem kpx_set {X : Nat} {W : World} {a : Addr} {v : Value} (h : X ≠ a.block) : KpX X W (W.setCell a v) := ⟨by simp [World.setCell], Below.heap_setCell _ _ _ _ h⟩
theorem ri_first {w W : World} {pre : List ByteArray} {x : ByteArray} {gn m : Int} {v : Value} {es : List Ed} {b : Bool} (h : RI w pre W) (hg : Bk W (w.heap.size + 1) 24 #[.int .i64 gn, v]) (hf : Bk W (w.heap.size + 1 + 1) 4 #[.bool b])
    (ho : W.ownsRow (w.heap.size + 4) 58 3 v es.length (es.flatMap encE)) (hs : graphL (pre.map (·.data.toList) ++ [x.data.toList]) = ⟨m, es, false⟩) :
    RI w (pre ++ [x]) ((W.setCell ⟨w.heap.size + 1, 0, none⟩ (.int .i64 m)).setCell ⟨w.heap.size + 1 + 1, 0, none⟩ (.bool false)) := by
  have e : graphL ((pre ++ [x]).map (·.data.toList)) = ⟨m, es, false⟩ := by rw [List.map_append]; exact hs
  refine ⟨(h.below.setCell (p := ⟨w.heap.size + 1, 0, none⟩) (by simp) _).setCell (p := ⟨w.heap.size + 1 + 1, 0, none⟩) (by simp; omega) _, by simpa [World.setCell] using h.size, (h.res.far (by simp) _).far (by simp <;> omega) _, ?_, v, ?_, ?_⟩
  · rw [e]; exact (hf.far (by simp) _).set 0 _
  · rw [e]; exact (hg.set 0 _).far (by simp) _
  · rw [e]
    exact own_keep (own_keep ho (grownBy_setCell' _ _ _) (fun r e => by cases e; exact .inl (by omega))) (grownBy_setCell' _ _ _) (fun r e => by cases e; exact .inl (by omega))

theorem cell_later {w : World} {a : Addr} {v : Value} {o : Obj} (h : w.cell? a = some v) : (w.alloc o).cell? a = some v := cell_keep h (Below.of_alloc w o)
theorem grown_setCell (w : World) (a : Addr) (u : Value) : w.grownBy (w.setCell a u) (some a.block) :=
  ⟨rfl, rfl, rfl, by simp [World.setCell], fun k _ hk => Below.heap_setCell _ _ _ _ (fun e => hk (by rw [e]))⟩
theorem ri_same {w W : World} {pre pre' : List ByteArray} (h : RI w pre W) (e : graphL (pre'.map (·.data.toList)) = graphL (pre.map (·.data.toList))) : RI w pre' W := by
  obtain ⟨a, b, c, d, f⟩ := h
  exact ⟨a, b, c, by rw [e]; exact d, by rw [e]; exact f⟩

theorem ri_app {w W Wd W2 : World} {pre : List ByteArray} {x : ByteArray} {gn : Int} {v v2 : Value} {es : List Ed} {e : Ed} {o : Obj} {B X : Nat} (h : RI w pre Wd) (hg : Bk Wd (w.heap.size + 1) 24 #[.int .i64 gn, v])
    (hvb : ∀ k, v.ownBlock = some k → w.heap.size + 4 ≤ k ∧ ∃ c : Obj, (Wd.alloc o).heap[k]? = some c ∧ c.isCells = true) (ho : W2.ownsRow (w.heap.size + 4) 58 3 v2 (es.length + 1) (es.flatMap encE ++ encE e)) (hgr : (Wd.alloc o).grownBy W2 v.ownBlock)
    (hfst : (graphL (pre.map (·.data.toList))).first = false) (hs : graphL (pre.map (·.data.toList) ++ [x.data.toList]) = ⟨gn, es ++ [e], false⟩) (hX : X = w.heap.size + 1 + 1 + 1) (hk : KeepsFrom B W Wd) (hx : KpX X W Wd) :
    RI w (pre ++ [x]) (W2.setCell ⟨w.heap.size + 1, 1, none⟩ v2) ∧ KeepsFrom B W (W2.setCell ⟨w.heap.size + 1, 1, none⟩ v2) ∧ KpX X W (W2.setCell ⟨w.heap.size + 1, 1, none⟩ v2) := by
  have e' : graphL ((pre ++ [x]).map (·.data.toList)) = ⟨gn, es ++ [e], false⟩ := by rw [List.map_append]; exact hs
  have hz := h.size
  have hne : ∀ g, g < w.heap.size + 4 → some g ≠ v.ownBlock := fun g hg e => by have := (hvb _ e.symm).1; omega
  refine ⟨⟨?_, ?_, ?_, ?_, v2, ?_, ?_⟩, ?_, ?_⟩
  · exact ((h.below.alloc h.below.size _).grown hgr (by have := h.below.size; simp; omega) (fun k e => by have := (hvb k e).1; omega)).setCell (p := ⟨w.heap.size + 1, 1, none⟩) (by simp) _
  · have := hgr.size; simp [World.setCell] at this ⊢; omega
  · exact ((h.res.alloc _).grown hgr (hne _ (by omega))).far (by simp) _
  · rw [e']
    have := h.fst
    rw [hfst] at this
    exact ((this.alloc _).grown hgr (hne _ (by omega))).far (by simp <;> omega) _
  · rw [e']
    exact ((hg.alloc _).grown hgr (hne _ (by omega))).set 1 _
  · rw [e']
    simp only [List.length_append, List.length_cons, List.length_nil, List.flatMap_append, List.flatMap_cons, List.flatMap_nil, List.append_nil]
    exact own_keep ho (grown_setCell _ _ _) (fun r e => by cases e; exact .inl (by simp <;> omega))
  · exact hk.trans (((KeepsOthers.alloc _ _).from _).trans (((KeepsOthers.of_grownBy hgr (fun j o e ho => by obtain ⟨c, hc, hcc⟩ := (hvb j e).2; rw [hc] at ho; cases ho; exact hcc)).from _).trans ((KeepsOthers.setCell _ _ _).from _)))
  · subst hX
    have hlt : w.heap.size + 1 + 1 + 1 < Wd.heap.size := by omega
    refine kpx_t hx ⟨?_, ?_⟩
    · have := hgr.size; simp [World.setCell] at this ⊢; omega
    · rw [Below.heap_setCell _ _ _ _ (by simp <;> omega), hgr.block _ (by simp; omega) (hne _ (by omega))]
      exact Below.heap_alloc _ _ _ hlt

/-- What Read answers: the graph whose text this is; or that there is none. -/
def okRead (s : ByteArray) : Bool := checkG (graphL (linesL s.data.toList)).n (graphL (linesL s.data.toList)).es == 0 && sheetT (graphL (linesL s.data.toList)).n (graphL (linesL s.data.toList)).es == s.toList
def ReadR (s : ByteArray) (w w' : World) (e : Ending) : Prop :=
  (if okRead s then ∃ v, e = .returned (.tuple #[.agg #[.int .i64 (graphL (linesL s.data.toList)).n, v], .int .i64 0]) ∧ Sl 3 encE w' w'.heap.size v (graphL (linesL s.data.toList)).es
    else e = .returned (.tuple #[.agg #[.int .i64 0, .slice none 0 0], .int .i64 3])) ∧ Below w.heap.size w w'

theorem end_facts {w W w3 : World} {D : Nat} {x y : Value} (a b : Value) (hW : Below w.heap.size w W) (hz : w.heap.size < W.heap.size) (hb3 : Below W.heap.size W w3) (hr : Bk w3 w.heap.size 24 #[x, y]) (hK : w3.heap[D]? = some (.deferred (some []))) (hD : w.heap.size ≤ D) :
    ((w3.setCell ⟨w.heap.size, 0, none⟩ a).setCell ⟨w.heap.size, 1, none⟩ b).heap[D]? = some (.deferred (some [])) ∧
    Bk (((w3.setCell ⟨w.heap.size, 0, none⟩ a).setCell ⟨w.heap.size, 1, none⟩ b).putObj D (.deferred none)) w.heap.size 24 #[a, b] ∧
    Below w.heap.size w (((w3.setCell ⟨w.heap.size, 0, none⟩ a).setCell ⟨w.heap.size, 1, none⟩ b).putObj D (.deferred none)) ∧
    (∀ {e : TypeId} {sz n : Nat} {v : Value} {xs : List Value}, W.ownsRow (w.heap.size + 4) e sz v n xs → (((w3.setCell ⟨w.heap.size, 0, none⟩ a).setCell ⟨w.heap.size, 1, none⟩ b).putObj D (.deferred none)).ownsRow (w.heap.size + 4) e sz v n xs) := by
  have hne : w.heap.size ≠ D := by
    rintro rfl
    unfold Bk at hr; rw [hr] at hK; cases hK
  have h1 : ((w3.setCell ⟨w.heap.size, 0, none⟩ a).setCell ⟨w.heap.size, 1, none⟩ b).heap[D]? = some (.deferred (some [])) := by
    rw [Below.heap_setCell _ _ _ _ (Ne.symm hne), Below.heap_setCell _ _ _ _ (Ne.symm hne)]; exact hK
  have hlt : D < w3.heap.size := (Array.getElem?_eq_some_iff.1 hK).1
  refine ⟨h1, ((hr.set 0 a).set 1 b).grown (grownBy_putObj' _ _ _) (fun e => hne (by injection e)), ?_, fun ho => ?_⟩
  · refine (((hW.trans (hb3.mono (by omega))).setCell (p := ⟨w.heap.size, 0, none⟩) (by simp) a).setCell (p := ⟨w.heap.size, 1, none⟩) (by simp) b).grown (grownBy_putObj' _ D _) ?_ (fun k e => by cases e; exact hD)
    have := hb3.size; simp [World.setCell]; omega
  · refine own_keep (own_keep (own_keep (own_old ho hb3) (grown_setCell _ _ _) (fun r e => by cases e; exact .inl (by simp))) (grown_setCell _ _ _) (fun r e => by cases e; exact .inl (by simp))) (grownBy_putObj' _ D _) (fun r e => by cases e; exact .inr ⟨_, h1, rfl⟩)

set_option maxRecDepth 100000 in
set_option maxHeartbeats 1000000 in
theorem read_body (s : ByteArray) (hs : s.size ≤ 20000) (w : World) (hE : Env w) :
    Calls Tryd.prog 9 #[.string s] w fun e w' => ReadR s w w' e := by
  refine (callsIn_wide (n := 10)).1 ?_
  refine callsIn_of_wp_marks Tryd.func9 rfl trivial ?_ rfl
  simp only [Tryd.ntmps9, List.size_toArray, List.length_cons, List.length_nil, Nat.reduceAdd, Nat.reduceSub, Array.replicate_succ, Array.replicate_zero, List.push_toArray, List.append_toArray, List.nil_append, List.cons_append]
  have hE2 := Lib.hid hE; clear hE
  obtain ⟨i0, hi0, hz0', hz1, hz2⟩ := info_parts infoEdge
  have hs2 : decide ((20000 : Int) < (s.size : Int)) = false := by simp; omega
  gi_wp2_with (refine ⟨trivial, ?_⟩; gi_at_call 20; refine (callsIn_wide.2 (lines_is s _)).mono ?_; rintro e w' ⟨rfl, rfl⟩)
  obtain ⟨W0, hW0⟩ : ∃ W0, W0 = (((w.alloc (.cells #[.int .i64 0, .slice none 0 0] 24)).alloc (.cells #[.int .i64 0, .slice none 0 0] 24)).alloc (.cells #[.bool true] 4)).alloc (.cells #[.string s] 9) := ⟨_, rfl⟩
  have hz0 : W0.heap.size = w.heap.size + 4 := by rw [hW0]; simp
  rw [← hW0]
  have hbX : Bk W0 (w.heap.size + 1 + 1 + 1) 9 #[.string s] := by rw [hW0]; simpa using Bk.new (((w.alloc (.cells #[.int .i64 0, .slice none 0 0] 24)).alloc (.cells #[.int .i64 0, .slice none 0 0] 24)).alloc (.cells #[.bool true] 4)) 9 #[.string s]
  have hI0 : RI w [] W0 := ri_start hW0
  clear hW0
  refine wpIn_rangeX rfl (by decide) (gf := 27) (lb := #[.pointer (some ⟨w.heap.size + 1 + 1 + 1, 0, none⟩)]) rfl trivial (enters_of Tryd.func27 (by kernel_rfl) rfl)
    (X := w.heap.size + 1 + 1 + 1) (by omega) (lines_seq 9 (w.heap.size + 1 + 1 + 1) (by decide) s (by omega) W0 hbX) kpx_t (kpx_b (by omega)) (Below.refl _ _) (fun _ => rfl)
    (RI w) (fun _ _ _ => False) (ri_own hz0) (fun _ _ _ _ _ h _ _ => h) hI0
    (fun x => { tmps := #[.string s, undef, .pointer (some ⟨w.heap.size, 0, none⟩), .int .i64 0, .pointer (some ⟨w.heap.size + 1, 0, none⟩), .pointer (some ⟨w.heap.size + 1 + 1, 0, none⟩), .string x, undef, undef, undef, .string s, .int .i64 s.size, .bool false, undef, .string s,
      .func (.func 27) #[] #[.pointer (some ⟨w.heap.size + 1 + 1 + 1, 0, none⟩)], .string x, undef, undef, undef, undef, undef, undef, undef, undef, undef, undef, undef, undef, undef, undef, undef, undef, undef, undef, undef, undef, undef, undef, undef, undef, undef, undef, undef, undef, undef, undef, undef, undef, undef, undef, undef, undef, undef, undef, undef], defers := [] }) ?assign ?body ?done ?stop
  case assign =>
    intro l x W K hK
    gi_wp2
    exact hK
  case body =>
    rintro l pre x W hi ⟨q, hq⟩
    have hxs : x.size ≤ 5000000 := by
      have : x.data.toList ∈ linesL s.data.toList := by rw [← hq]; simp
      have := linesL_le this
      simp at this; omega
    have HEL : Hid ((graphL (pre.map (·.data.toList))).es.length ≤ 20000) := by
      have h1 := graphL_len (pre.map (·.data.toList))
      have h2 : pre.length ≤ (linesL s.data.toList).length := by rw [← hq]; simp <;> omega
      have h3 := linesL_count s.data.toList
      simp at h1 h3
      unfold Hid; omega
    clear hq
    have hW := hi.below
    gi_wp2_with (refine ⟨trivial, ?_⟩; gi_at_call 21; refine (CallsIn.inRound l (callsIn_wide.2 (numbers_any x hxs _ (hE2.out.keep hW)))).mono ?_; refine Hid.out ?_)
    refine Lib.hid ?_
    rintro e w1 ⟨nv, rfl, hnv, hb1, hfr⟩
    have hi1 : RI w pre w1 := ri_keep hi hb1
    have hk1 : KeepsFrom W0.heap.size W w1 := ⟨hb1.size, fun k o _ hk _ => (hb1.block k (Array.getElem?_eq_some_iff.1 hk).1).trans hk⟩
    have hx1 : KpX (w.heap.size + 1 + 1 + 1) W w1 := ⟨hb1.size, hb1.block _ (by have := hi.size; omega)⟩
    have hB1 := hi1.size
    obtain ⟨b, o, c, rfl, hlc, hcm, hbb, hcell⟩ := hnv.at_ (numsL_pos _)
    have hfr' := hfr b rfl
    clear hfr
    have hpos := numsL_pos x.data.toList
    have hc0 := hcell 0 _ (List.getElem?_eq_getElem hpos) 0 _ rfl
    have HC := Lib.hid hcell; clear hcell hnv
    obtain ⟨v, hg0, hown0⟩ := hi.g
    have hg := hg0.old hb1
    have hown := own_old hown0 hb1
    have hvb : ∀ k, v.ownBlock = some k → w.heap.size + 4 ≤ k ∧ k < W.heap.size := hown0.lt
    clear hg0 hown0
    have hfs := hi1.fst
    have HS := graphL_snoc (pre.map (·.data.toList)) x.data.toList
    generalize hG : graphL (pre.map (·.data.toList)) = G at *
    have HG := Lib.hid hG; clear hG
    obtain ⟨gn, es, fst⟩ := G
    have HS2 := Lib.hid HS; clear HS
    cases fst
    · have cf := hfs.cell 0
      have ff := hfs.froz 0
      have cg := hg.cell 1
      have fg := hg.froz 1
      simp only [List.getElem?_toArray] at cf cg
      clear hc0
      cases h3 : decide ((numsL x.data.toList).length = 3)
      · have h3' : decide (((numsL x.data.toList).length : Int) = 3) = false := by
          have := of_decide_eq_false h3; simp; omega
        have h3b : (((numsL x.data.toList).length : Int) == 3) = false := by
          have := of_decide_eq_false h3; simp; omega
        gi_wp2
        refine ⟨hk1, hx1, ?_⟩
        have e : graphL ((pre ++ [x]).map (·.data.toList)) = graphL (pre.map (·.data.toList)) := by
          rw [List.map_append]; refine Eq.trans HS2.out ?_; rw [HG.out, stepG, if_neg (by simp), if_neg (of_decide_eq_false h3)]
        exact ri_same hi1 e
      · obtain ⟨a0, a1, a2, h3'⟩ : ∃ a0 a1 a2, numsL x.data.toList = [a0, a1, a2] := by
          have := of_decide_eq_true h3
          match hh : numsL x.data.toList, this with
          | [a0, a1, a2], _ => exact ⟨a0, a1, a2, rfl⟩
        have cn0 := HC.out 0 a0 (by rw [h3']; rfl) 0 _ rfl
        have cn1 := HC.out 1 a1 (by rw [h3']; rfl) 0 _ rfl
        have cn2 := HC.out 2 a2 (by rw [h3']; rfl) 0 _ rfl
        have hl3 : (numsL x.data.toList).length = 3 := by rw [h3']; rfl
        rw [hl3] at hlc
        have H3 := Lib.hid h3'
        clear h3 h3' HC hpos
        gi_wp2
        refine wpIn_region_round (by kernel_rfl) (noDefer_is (by kernel_rfl)) ?_ ?_
        · rintro ⟨_, _, h⟩; exact h
        refine wpAny_of_z (z := 15) (S := fun W' => W'.cell? ⟨w.heap.size + 1, 1, none⟩ = some v ∧ W'.cell? ⟨b, o, none⟩ = some (.int .i64 a0) ∧ W'.cell? ⟨b, o + 1, none⟩ = some (.int .i64 a1) ∧ W'.cell? ⟨b, o + 2, none⟩ = some (.int .i64 a2)) _ _ _ _ ?_
        change wpAnyZ _ _ _ _ _ _ _ _ _ w1.drew
        obtain ⟨Wd, hWd⟩ : ∃ Wd, Wd = w1.drew := ⟨_, rfl⟩
        rw [← hWd]
        have hD : Below w1.heap.size w1 Wd := by rw [hWd]; exact (Below.refl _ _).drew
        have hzD : Wd.heap.size = w1.heap.size := by rw [hWd]; rfl
        have hS0 : Wd.cell? ⟨w.heap.size + 1, 1, none⟩ = some v ∧ Wd.cell? ⟨b, o, none⟩ = some (.int .i64 a0) ∧ Wd.cell? ⟨b, o + 1, none⟩ = some (.int .i64 a1) ∧ Wd.cell? ⟨b, o + 2, none⟩ = some (.int .i64 a2) := by
          rw [hWd]; exact ⟨cg, cn0, cn1, cn2⟩
        have HD := Lib.hid hD; have HZ := Lib.hid hzD
        clear hWd hD hzD
        refine wpAnyZ_take (i := 0) (v := ?_) rfl (by kernel_rfl) (by kernel_rfl) (by kernel_rfl) (by kernel_rfl) (fun _ _ _ h => h) (Or.inl ⟨by rfl, ?_⟩) (by assumption) ?_
        rotate_left
        · intro w hSw; (try dsimp only at hSw); obtain ⟨s0, s1, s2, s3⟩ := hSw; go_simp; (try with_reducible rfl)
        refine wpAnyZ_take (i := 1) (v := ?_) rfl (by kernel_rfl) (by kernel_rfl) (by kernel_rfl) (by kernel_rfl) (fun _ _ _ h => h) (Or.inl ⟨by rfl, ?_⟩) (by assumption) ?_
        rotate_left
        · intro w hSw; (try dsimp only at hSw); obtain ⟨s0, s1, s2, s3⟩ := hSw; go_simp; (try with_reducible rfl)
        refine wpAnyZ_take (i := 2) (v := ?_) rfl (by kernel_rfl) (by kernel_rfl) (by kernel_rfl) (by kernel_rfl) (fun _ _ _ h => h) (Or.inl ⟨by rfl, ?_⟩) (by assumption) ?_
        rotate_left
        · intro w hSw; (try dsimp only at hSw); obtain ⟨s0, s1, s2, s3⟩ := hSw; go_simp; (try with_reducible rfl)
        refine wpAnyZ_take (i := 3) (v := ?_) rfl (by kernel_rfl) (by kernel_rfl) (by kernel_rfl) (by kernel_rfl) (fun _ _ _ h => h) (Or.inl ⟨by rfl, ?_⟩) (by assumption) ?_
        rotate_left
        · intro w hSw; (try dsimp only at hSw); obtain ⟨s0, s1, s2, s3⟩ := hSw; go_simp; (try with_reducible rfl)
        refine wpAnyZ_take (i := 4) (v := ?_) rfl (by kernel_rfl) (by kernel_rfl) (by kernel_rfl) (by kernel_rfl) (fun _ _ _ h => h) (Or.inl ⟨by rfl, ?_⟩) (by assumption) ?_
        rotate_left
        · intro w hSw; (try dsimp only at hSw); obtain ⟨s0, s1, s2, s3⟩ := hSw; go_simp; (try with_reducible rfl)
        refine wpAnyZ_take (i := 5) (v := ?_) rfl (by kernel_rfl) (by kernel_rfl) (by kernel_rfl) (by kernel_rfl) (fun _ _ _ h => h) (Or.inl ⟨by rfl, ?_⟩) (by assumption) ?_
        rotate_left
        · intro w hSw; (try dsimp only at hSw); obtain ⟨s0, s1, s2, s3⟩ := hSw; go_simp; (try with_reducible rfl)
        refine wpAnyZ_take (i := 6) (v := ?_) rfl (by kernel_rfl) (by kernel_rfl) (by kernel_rfl) (by kernel_rfl) (fun _ _ _ h => h) (Or.inl ⟨by rfl, ?_⟩) (by assumption) ?_
        rotate_left
        · intro w hSw; (try dsimp only at hSw); obtain ⟨s0, s1, s2, s3⟩ := hSw; go_simp; (try with_reducible rfl)
        refine wpAnyZ_take (i := 7) (v := ?_) rfl (by kernel_rfl) (by kernel_rfl) (by kernel_rfl) (by kernel_rfl) (fun _ _ _ h => h) (Or.inl ⟨by rfl, ?_⟩) (by assumption) ?_
        rotate_left
        · intro w hSw; (try dsimp only at hSw); obtain ⟨s0, s1, s2, s3⟩ := hSw; go_simp; (try with_reducible rfl)
        refine wpAnyZ_take (i := 8) (v := ?_) rfl (by kernel_rfl) (by kernel_rfl) (by kernel_rfl) (by kernel_rfl) (fun _ _ _ h => h) (Or.inl ⟨by rfl, ?_⟩) (by assumption) ?_
        rotate_left
        · intro w hSw; (try dsimp only at hSw); obtain ⟨s0, s1, s2, s3⟩ := hSw; go_simp; (try with_reducible rfl)
        refine wpAnyZ_take (i := 9) (v := ?_) rfl (by kernel_rfl) (by kernel_rfl) (by kernel_rfl) (by kernel_rfl) (fun _ _ _ h => h) (Or.inl ⟨by rfl, ?_⟩) (by assumption) ?_
        rotate_left
        · intro w hSw; (try dsimp only at hSw); obtain ⟨s0, s1, s2, s3⟩ := hSw; go_simp; (try with_reducible rfl)
        refine wpAnyZ_take (i := 10) (v := ?_) rfl (by kernel_rfl) (by kernel_rfl) (by kernel_rfl) (by kernel_rfl) (fun _ _ _ h => h) (Or.inl ⟨by rfl, ?_⟩) (by assumption) ?_
        rotate_left
        · intro w hSw; (try dsimp only at hSw); obtain ⟨s0, s1, s2, s3⟩ := hSw; go_simp; (try with_reducible rfl)
        refine wpAnyZ_take (i := 11) (v := ?_) rfl (by kernel_rfl) (by kernel_rfl) (by kernel_rfl) (by kernel_rfl) (fun _ _ _ h => h) (Or.inl ⟨by rfl, ?_⟩) (by assumption) ?_
        rotate_left
        · intro w hSw; (try dsimp only at hSw); obtain ⟨s0, s1, s2, s3⟩ := hSw; go_simp; (try with_reducible rfl)
        refine wpAnyZ_one (i := 12) (by kernel_rfl) rfl (fun K hK => ?_)
        go_simp
        refine hK.out _ _ ⟨cell_later hS0.1, cell_later hS0.2.1, cell_later hS0.2.2.1, cell_later hS0.2.2.2⟩ (fun hHeld => ?_)
        clear hK K
        refine wpAnyZ_one (i := 13) (by kernel_rfl) rfl (fun K hK => ?_)
        have hownD := own_old (own_old hown HD.out) (Below.of_alloc Wd (.cells #[.int .i64 a0, .int .i64 a1, .int .i64 a2] 58))
        have hel := HEL.out
        refine step_append_own rfl (.tmp 28) (.tmp 39) 22 rfl (w.heap.size + 4) 58 i0 (.agg #[.int .i64 0, .int .i64 0, .int .i64 0]) 3 24 Tryd.underlying22 hi0 hz0' hz1 hz2 rfl (by decide) v es.length (es.flatMap encE) rfl hownD
          ⟨Wd.heap.size, 0, none⟩ 1 1 (encE ⟨a0, a1, a2⟩) rfl rfl ?_ ?_ ?_ ?_ ?_ ?_
        · intro j u hj
          have := (Bk.new Wd 58 #[.int .i64 a0, .int .i64 a1, .int .i64 a2]).cell j
          rw [show (⟨Wd.heap.size, 0, none⟩ : Addr).add j = ⟨Wd.heap.size, j, none⟩ by unfold Addr.add; split <;> simp_all, this]
          simpa [encE] using hj
        · intro u hu
          simp [encE] at hu
          rcases hu with rfl | rfl | rfl <;> rfl
        · unfold maxLen; omega
        · omega
        · have := HZ.out; simp; omega
        intro v2 W2 hown2 hgrow hat
        have hne1 : some (w.heap.size + 1) ≠ v.ownBlock := fun e => by have := hvb _ e.symm; omega
        have hneb : some b ≠ v.ownBlock := fun e => by have := hvb _ e.symm; omega
        have hg2 : Bk W2 (w.heap.size + 1) 24 #[.int .i64 gn, v] := ((hg.old HD.out).alloc _).grown hgrow hne1
        have fg2 := hg2.froz 1
        refine hK.out _ _ ⟨hgrow.cell (cell_later hS0.1) hne1, hgrow.cell (cell_later hS0.2.1) hneb, hgrow.cell (cell_later hS0.2.2.1) hneb, hgrow.cell (cell_later hS0.2.2.2) hneb⟩ (fun hHeld2 => ?_)
        clear hK K
        have hc2 := hHeld2.1
        have hv2 : ∃ A2 c2, v2 = .slice A2 (es.length + 1) c2 := by
          rcases hown2.2 with ⟨rfl, h0⟩ | ⟨_, _, _, rfl, _⟩
          · omega
          · exact ⟨_, _, rfl⟩
        obtain ⟨A2, c2, rfl⟩ := hv2
        have H2 : Hid (RI w (pre ++ [x]) (W2.setCell ⟨w.heap.size + 1, 1, none⟩ (.slice A2 (es.length + 1) c2)) ∧ KeepsFrom W0.heap.size W (W2.setCell ⟨w.heap.size + 1, 1, none⟩ (.slice A2 (es.length + 1) c2)) ∧ KpX (w.heap.size + 1 + 1 + 1) W (W2.setCell ⟨w.heap.size + 1, 1, none⟩ (.slice A2 (es.length + 1) c2))) :=
          ri_app (B := W0.heap.size) (W := W) (ri_keep hi1 HD.out) (hg.old HD.out) (fun k e => ⟨(hvb k e).1, by
              rcases hownD.2 with ⟨rfl, _⟩ | ⟨g', cap, cur, rfl, _, hgg, _⟩
              · simp [Value.ownBlock] at e
              · simp [Value.ownBlock] at e; subst e; exact ⟨_, hgg, rfl⟩⟩) hown2 hgrow (by rw [HG.out]) (by rw [HS2.out]; simp [stepG, H3.out]) rfl
            (hk1.trans ⟨HD.out.size, fun k o _ hk _ => (HD.out.block k (Array.getElem?_eq_some_iff.1 hk).1).trans hk⟩) (kpx_t hx1 ⟨HD.out.size, HD.out.block _ (by omega)⟩)
        clear hown2 hgrow hat hownD hel hS0 hg2
        refine wpAnyZ_take (i := 14) (v := ?_) rfl (by kernel_rfl) (by kernel_rfl) (by kernel_rfl) (by kernel_rfl) (fun _ _ _ h => h) (Or.inl ⟨by rfl, ?_⟩) (by assumption) ?_
        rotate_left
        · intro w hSw; go_simp; (try with_reducible rfl)
        refine wpAnyZ_last (by kernel_rfl) rfl (fun K hK => ?_)
        go_simp
        refine hK.out _ _ ?_
        refine wpAnyZ_done (by kernel_rfl) ?_ _
        exact ⟨H2.out.2.1, H2.out.2.2, H2.out.1⟩
    · have cf := hfs.cell 0
      have ff := hfs.froz 0
      have cg := hg.cell 0
      have fg := hg.froz 0
      have cn : w1.cell? ⟨b, o, none⟩ = some (.int .i64 ((numsL x.data.toList)[0]?.getD 0)) := by rw [List.getElem?_eq_getElem hpos]; simpa using hc0
      simp only [List.getElem?_toArray] at cf cg
      clear hc0
      gi_wp2
      refine ⟨hk1.trans (((KeepsOthers.setCell _ _ _).from _).trans ((KeepsOthers.setCell _ _ _).from _)), kpx_t hx1 (kpx_t (kpx_set (by simp <;> omega)) (kpx_set (by simp <;> omega))), ?_⟩
      refine ri_first hi1 hg hfs hown ?_
      rw [HS2.out]; simp [stepG, List.getElem?_eq_getElem hpos]
  case done =>
    rintro D xs W hD hxs hi hK
    have hW := hi.below
    have hr := hi.res
    obtain ⟨v, hg, hown⟩ := hi.g
    rw [hxs] at hg hown
    have hsl := Sl.of_own (enc := encE) (fun _ => rfl) hown
    have hz := hi.size
    have HO := Lib.hid hown
    clear hxs hown hi
    generalize hG : graphL (linesL s.data.toList) = G at *
    have HG := Lib.hid hG; clear hG
    obtain ⟨n, es, fst⟩ := G
    obtain ⟨A, c, rfl, _⟩ : ∃ A c, v = .slice A es.length c ∧ True := by obtain ⟨A, c, e, _⟩ := hsl; exact ⟨A, c, e, trivial⟩
    have cg0 := hg.cell 0
    have cg1 := hg.cell 1
    simp only [List.getElem?_toArray] at cg0 cg1
    have hk9 : ∀ (w' : World), Below W.heap.size W w' → w'.heap[D]? = some (.deferred (some [])) := fun _ h => (h.block D (Array.getElem?_eq_some_iff.1 hK).1).trans hK
    have HK := Lib.hid hk9; clear hk9
    have SHB := Lib.hid (fun h => show_bad n es _ W hsl h)
    have SHO := Lib.hid (fun h => show_ok n es _ W hsl h (hE2.out.keep hW).pow)
    clear hsl
    cases hck : (checkG n es == 0)
    · have hck2 : (checkG n es != 0) = true := by simpa using hck
      have CK := Lib.hid hck
      gi_wp2_with (refine ⟨trivial, ?_⟩; gi_at_call 7; refine (callsIn_wide.2 (SHB.out hck)).mono ?_; refine Hid.out ?_)
      refine Lib.hid ?_
      rintro e w3 rfl hb3
      have hr3 := hr.old hb3
      have cr0 := hr3.cell 0
      have cr1 := hr3.cell 1
      have fr0 := hr3.froz 0
      have fr1 := hr3.froz 1
      simp only [List.getElem?_toArray] at cr0 cr1
      obtain ⟨e1, e2, e3, _⟩ := end_facts (.int .i64 0) (.slice none 0 0) hW (by omega) hb3 hr3 (HK.out _ hb3) (by omega)
      have E1 := Lib.hid e1; have E2 := Lib.hid e2; have E3 := Lib.hid e3; clear e1 e2 e3
      gi_wp2
      refine ⟨by simp, .inl ⟨_, _, rfl, run_takeDeferred E1.out, ?_⟩⟩
      have d0 := E2.out.cell 0
      have d1 := E2.out.cell 1
      simp only [List.getElem?_toArray] at d0 d1
      refine ⟨.tuple #[.agg #[.int .i64 0, .slice none 0 0], .int .i64 3], ?_, ?_, E3.out⟩
      · simp [results, Tryd.f9, go_sem, d0, d1]
      · rw [if_neg (by unfold okRead; simp only [HG.out]; simp [CK.out])]
    · have hck1 : checkG n es = 0 := by simpa using hck
      have SH := Lib.hid (SHO.out hck1)
      have CK := Lib.hid hck
      clear hck1 hck
      cases hst : (sheetT n es == s.toList)
      · have ST := Lib.hid hst
        gi_wp2_with (refine ⟨trivial, ?_⟩; gi_at_call 7; refine (callsIn_wide.2 SH.out).mono ?_; refine Hid.out ?_)
        refine Lib.hid ?_
        rintro e w3 rfl hb3
        have hr3 := hr.old hb3
        have cr0 := hr3.cell 0
        have cr1 := hr3.cell 1
        have fr0 := hr3.froz 0
        have fr1 := hr3.froz 1
        simp only [List.getElem?_toArray] at cr0 cr1
        obtain ⟨e1, e2, e3, _⟩ := end_facts (.int .i64 0) (.slice none 0 0) hW (by omega) hb3 hr3 (HK.out _ hb3) (by omega)
        have E1 := Lib.hid e1; have E2 := Lib.hid e2; have E3 := Lib.hid e3; clear e1 e2 e3
        gi_wp2
        refine ⟨by simp, .inl ⟨_, _, rfl, run_takeDeferred E1.out, ?_⟩⟩
        have d0 := E2.out.cell 0
        have d1 := E2.out.cell 1
        simp only [List.getElem?_toArray] at d0 d1
        refine ⟨.tuple #[.agg #[.int .i64 0, .slice none 0 0], .int .i64 3], ?_, ?_, E3.out⟩
        · simp [results, Tryd.f9, go_sem, d0, d1]
        · rw [if_neg (by unfold okRead; simp only [HG.out]; simp [ST.out])]
      · have ST := Lib.hid hst
        gi_wp2_with (refine ⟨trivial, ?_⟩; gi_at_call 7; refine (callsIn_wide.2 SH.out).mono ?_; refine Hid.out ?_)
        refine Lib.hid ?_
        rintro e w3 rfl hb3
        have hr3 := hr.old hb3
        have cr0 := hr3.cell 0
        have cr1 := hr3.cell 1
        have fr0 := hr3.froz 0
        have fr1 := hr3.froz 1
        have hg3 := hg.old hb3
        have dg0 := hg3.cell 0
        have dg1 := hg3.cell 1
        simp only [List.getElem?_toArray] at cr0 cr1 dg0 dg1
        obtain ⟨e1, e2, e3, e4⟩ := end_facts (.int .i64 n) (.slice A es.length c) hW (by omega) hb3 hr3 (HK.out _ hb3) (by omega)
        have E1 := Lib.hid e1; have E2 := Lib.hid e2; have E3 := Lib.hid e3; have E4 := Lib.hid (Sl.of_own (enc := encE) (fun _ => rfl) (e4 HO.out)); clear e1 e2 e3 e4
        gi_wp2
        refine ⟨by simp, .inl ⟨_, _, rfl, run_takeDeferred E1.out, ?_⟩⟩
        have d0 := E2.out.cell 0
        have d1 := E2.out.cell 1
        simp only [List.getElem?_toArray] at d0 d1
        refine ⟨.tuple #[.agg #[.int .i64 n, .slice A es.length c], .int .i64 0], ?_, ?_, E3.out⟩
        · simp [results, Tryd.f9, go_sem, d0, d1]
        · rw [if_pos (by unfold okRead; simp only [HG.out]; simp [CK.out, ST.out])]
          simp only [HG.out]
          exact ⟨_, rfl, E4.out⟩
  case stop =>
    rintro D c pre W _ _ h _
    exact h.elim

end Go.Proofs.YteehgoaibblpfaaDoor
