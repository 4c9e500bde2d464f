/- paths.spots: its methods, as container/heap calls them. -/
import Derived.Test.YtbholafggbdieaaStrongWalk
namespace Go.Proofs.Ytbholafggbdieaa
open Go.RowKit

theorem meth_Len (P : Nat) (v : Value) (w : World) (hc : w.cell? ⟨P, 0, none⟩ = some v) : (method 274 91 (.pointer (some ⟨P, 0, none⟩)) "Len").run Try.prog w = .ok (107, v) w := by
  obtain ⟨m, h1, h2, h3⟩ : ∃ m, Array.find? (fun x => x.name == "Len") Try.t91.methods = some m ∧ m.path = #[] ∧ m.func = some (107, false) := ⟨(Array.find? (fun x => x.name == "Len") Try.t91.methods).get (by kernel_rfl), (Option.some_get _).symm, by kernel_rfl, by kernel_rfl⟩
  unfold method
  go_simp
  clear h1 h2 h3
  unfold follow receiverAt
  generalize (("Len".splitOn ".").getLast?.getD "Len") = nm
  go_simp
  have hs : ∀ W : World, (Builtin.ssaWrapNilChk_ #[91] 91 #[.pointer (some ⟨P, 0, none⟩), strVal "", strVal nm]).run Try.prog W = .ok (.pointer (some ⟨P, 0, none⟩)) W := fun W => rfl
  unfold Place.get
  go_simp
theorem meth_Less (P : Nat) (v : Value) (w : World) (hc : w.cell? ⟨P, 0, none⟩ = some v) : (method 274 91 (.pointer (some ⟨P, 0, none⟩)) "Less").run Try.prog w = .ok (108, v) w := by
  obtain ⟨m, h1, h2, h3⟩ : ∃ m, Array.find? (fun x => x.name == "Less") Try.t91.methods = some m ∧ m.path = #[] ∧ m.func = some (108, false) := ⟨(Array.find? (fun x => x.name == "Less") Try.t91.methods).get (by kernel_rfl), (Option.some_get _).symm, by kernel_rfl, by kernel_rfl⟩
  unfold method
  go_simp
  clear h1 h2 h3
  unfold follow receiverAt
  generalize (("Less".splitOn ".").getLast?.getD "Less") = nm
  go_simp
  have hs : ∀ W : World, (Builtin.ssaWrapNilChk_ #[91] 91 #[.pointer (some ⟨P, 0, none⟩), strVal "", strVal nm]).run Try.prog W = .ok (.pointer (some ⟨P, 0, none⟩)) W := fun W => rfl
  unfold Place.get
  go_simp
theorem meth_Swap (P : Nat) (v : Value) (w : World) (hc : w.cell? ⟨P, 0, none⟩ = some v) : (method 274 91 (.pointer (some ⟨P, 0, none⟩)) "Swap").run Try.prog w = .ok (109, v) w := by
  obtain ⟨m, h1, h2, h3⟩ : ∃ m, Array.find? (fun x => x.name == "Swap") Try.t91.methods = some m ∧ m.path = #[] ∧ m.func = some (109, false) := ⟨(Array.find? (fun x => x.name == "Swap") Try.t91.methods).get (by kernel_rfl), (Option.some_get _).symm, by kernel_rfl, by kernel_rfl⟩
  unfold method
  go_simp
  clear h1 h2 h3
  unfold follow receiverAt
  generalize (("Swap".splitOn ".").getLast?.getD "Swap") = nm
  go_simp
  have hs : ∀ W : World, (Builtin.ssaWrapNilChk_ #[91] 91 #[.pointer (some ⟨P, 0, none⟩), strVal "", strVal nm]).run Try.prog W = .ok (.pointer (some ⟨P, 0, none⟩)) W := fun W => rfl
  unfold Place.get
  go_simp
theorem meth_Push (P : Nat) (w : World) : (method 274 91 (.pointer (some ⟨P, 0, none⟩)) "Push").run Try.prog w = .ok (111, .pointer (some ⟨P, 0, none⟩)) w := by kernel_rfl
theorem meth_Pop (P : Nat) (w : World) : (method 274 91 (.pointer (some ⟨P, 0, none⟩)) "Pop").run Try.prog w = .ok (110, .pointer (some ⟨P, 0, none⟩)) w := by kernel_rfl

/-- A spot: a vertex, and how far it is. -/
structure Sp where
  v : Int
  f : Int
instance : Inhabited Sp := ⟨⟨0, 0⟩⟩
def encS (s : Sp) : List Value := [.int .i64 s.v, .int .i64 s.f]
def sp (l : List Sp) (i : Nat) : Sp := l[i]?.getD default
theorem sp_at {l : List Sp} {i : Nat} (h : i < l.length) : l[i]? = some (sp l i) := by
  unfold sp; rw [List.getElem?_eq_getElem h]; rfl
theorem flat_spots (l : List Sp) : (l.flatMap encS).length = l.length * 2 := by
  induction l with
  | nil => rfl
  | cons x l ih => rw [List.flatMap_cons, List.length_append, ih, List.length_cons]; simp [encS]; omega
/-- The row of spots. -/
abbrev RowS (w : World) (v : Value) (l : List Sp) : Prop := w.ownsRow 0 87 2 v l.length (l.flatMap encS)
theorem RowS.cell {w : World} {g c n : Nat} {l : List Sp} (h : RowS w (.slice (some ⟨g, 0, none⟩) n c) l) {i : Nat} (hi : i < l.length) : w.cell? ⟨g, i * 2, none⟩ = some (.int .i64 (sp l i).v) ∧ w.cell? ⟨g, i * 2 + 1, none⟩ = some (.int .i64 (sp l i).f) := by
  have S := Sl.of_own (sz := 2) (enc := encS) (fun _ => rfl) (by have := h; exact (show w.ownsRow 0 87 2 _ l.length (l.flatMap encS) from this))
  obtain ⟨A, c', e, _, _, hA⟩ := S
  obtain ⟨b, o, eA, _, hc⟩ := hA (by omega)
  rcases h.2 with ⟨e', _⟩ | ⟨g', cap, cur, e', _⟩
  · cases e'
  · injection e with e1
    subst eA
    injection e1 with e1
    injection e1 with e1 e2
    subst e1 e2
    exact ⟨by simpa using hc i _ (sp_at hi) 0 _ rfl, by simpa using hc i _ (sp_at hi) 1 _ rfl⟩

set_option maxHeartbeats 1000000 in
theorem less_any (g c n : Nat) (l : List Sp) (i j : Nat) (w : World) (hr : RowS w (.slice (some ⟨g, 0, none⟩) n c) l) (hn : l.length = n) (hi : i < n) (hj : j < n) :
    Calls Try.prog 108 #[.slice (some ⟨g, 0, none⟩) n c, .int .i64 i, .int .i64 j] w fun e w' => e = .returned (.bool (decide ((sp l i).f < (sp l j).f))) ∧ ∃ q, w' = w.drewN q := by
  have a1 := (hr.cell (i := i) (by omega)).2
  have a2 := (hr.cell (i := j) (by omega)).2
  clear hr hn
  generalize (sp l i).f = x at *
  generalize (sp l j).f = y at *
  go_enter Try.func108, Try.ntmps108
  go_wp2_with fail
  go_quiet (fail)
  go_wp2
  go_ret
  exact ⟨rfl, _, rfl⟩

theorem flat_set_s : ∀ (l : List Sp) (k : Nat) (x : Sp), k < l.length → ((l.flatMap encS).set (k * 2) (.int .i64 x.v)).set (k * 2 + 1) (.int .i64 x.f) = (l.set k x).flatMap encS
  | [], k, x, h => by simp at h
  | y :: l, 0, x, _ => by simp [encS]
  | y :: l, k + 1, x, h => by
    have ih := flat_set_s l k x (by simpa using h)
    rw [List.set_cons_succ, List.flatMap_cons, List.flatMap_cons, ← ih]
    rw [show (k + 1) * 2 = k * 2 + 2 by omega, show k * 2 + 2 + 1 = k * 2 + 1 + 2 by omega]
    simp [encS]
theorem RowS.put {w : World} {g c n : Nat} {l : List Sp} (h : RowS w (.slice (some ⟨g, 0, none⟩) n c) l) (hn : l.length = n) {k : Nat} (hk : k < n) (x : Sp) :
    RowS ((w.setCell ⟨g, k * 2, none⟩ (.int .i64 x.v)).setCell ⟨g, k * 2 + 1, none⟩ (.int .i64 x.f)) (.slice (some ⟨g, 0, none⟩) n c) (l.set k x) := by
  subst hn
  have h1 := (h.stored (k * 2) (.int .i64 x.v)).1
  have h2 := (h1.stored (k * 2 + 1) (.int .i64 x.f)).1
  rw [flat_set_s l k x hk] at h2
  unfold RowS
  rw [List.length_set]
  exact h2
def swapL (l : List Sp) (i j : Nat) : List Sp := (l.set i (sp l j)).set j (sp l i)
theorem swapL_len (l : List Sp) (i j : Nat) : (swapL l i j).length = l.length := by simp [swapL]
theorem sp_set {l : List Sp} {k i : Nat} {x : Sp} (hk : k < l.length) : sp (l.set k x) i = if i = k then x else sp l i := by
  unfold sp
  rw [List.getElem?_set]
  by_cases h : k = i
  · subst h; simp [hk]
  · rw [if_neg h, if_neg (fun e => h e.symm)]
theorem sp_swap {l : List Sp} {i j k : Nat} (hi : i < l.length) (hj : j < l.length) : sp (swapL l i j) k = if k = j then sp l i else if k = i then sp l j else sp l k := by
  unfold swapL
  rw [sp_set (by simpa using hj), sp_set hi]
/-- Two places made, in either order. -/
def TwoSpots (w : World) (v1 v2 : Value) (w' : World) : Prop := ∃ a b : Nat, v1 = .pointer (some ⟨a, 0, none⟩) ∧ v2 = .pointer (some ⟨b, 0, none⟩) ∧ a ≠ b ∧ w.heap.size ≤ a ∧ w.heap.size ≤ b ∧ Bk w' a 87 #[.int .i64 0, .int .i64 0] ∧ Bk w' b 87 #[.int .i64 0, .int .i64 0] ∧ Below w.heap.size w w'
def SwapR (v : Value) (g : Nat) (l : List Sp) (w : World) (e : Ending) (w' : World) : Prop := e = .returned (.tuple #[]) ∧ RowS w' v l ∧ Chg (· = g) w w'

set_option maxRecDepth 10000 in
set_option maxHeartbeats 2000000 in
theorem swap_any (g c n : Nat) (l : List Sp) (i j : Nat) (w : World) (hr : RowS w (.slice (some ⟨g, 0, none⟩) n c) l) (hn : l.length = n) (hi : i < n) (hj : j < n) :
    Calls Try.prog 109 #[.slice (some ⟨g, 0, none⟩) n c, .int .i64 i, .int .i64 j] w (SwapR (.slice (some ⟨g, 0, none⟩) n c) g (swapL l i j) w) := by
  obtain ⟨a1, a2⟩ := hr.cell (i := i) (by omega)
  obtain ⟨b1, b2⟩ := hr.cell (i := j) (by omega)
  have hgl := (hr.lt g rfl).2
  have HR := Lib.hid hr; have HN := Lib.hid hn
  have HSW : Hid (swapL l i j = (l.set i (sp l j)).set j (sp l i)) := rfl
  rw [HSW.out]
  clear hr hn
  generalize hx : sp l i = x at *
  generalize hy : sp l j = y at *
  clear hx hy HSW
  obtain ⟨xv, xf⟩ := x
  obtain ⟨yv, yf⟩ := y
  simp only at a1 a2 b1 b2
  go_enter Try.func109, Try.ntmps109
  go_wp2_with fail
  refine wp_region_zs (fun W => W.cell? ⟨g, i * 2, none⟩ = some (.int .i64 xv) ∧ W.cell? ⟨g, i * 2 + 1, none⟩ = some (.int .i64 xf) ∧ W.cell? ⟨g, j * 2, none⟩ = some (.int .i64 yv) ∧ W.cell? ⟨g, j * 2 + 1, none⟩ = some (.int .i64 yf)) [] (by kernel_rfl) ?_
  refine wpZ_batch (is := [0, 1, 2, 3, 4, 5, 6, 7]) (by kernel_rfl) ⟨a1, a2, b1, b2⟩ (a1 := ?_) ?_ ?_
  rotate_left
  · repeat
      (refine SeqY.run (v := ?_) rfl (by rfl) ?_ ?_
       rotate_left
       · (intro W hS; (try dsimp only at hS); go_simp; (try with_reducible rfl)))
    exact SeqY.nil
  refine wpZ_both (i := 8) (k := 9) (TwoSpots w) (by kernel_rfl) rfl rfl rfl rfl ?_ ?_ ?_
  · unfold Gives
    go_simp
    exact ⟨w.heap.size, w.heap.size + 1, rfl, rfl, by omega, Nat.le_refl _, by omega, (Bk.new w.drew _ _).alloc _, cellr w.drew _ _ _, (Below.refl _ _).drew.trans (below_two w.drew _ _)⟩
  · unfold Gives
    go_simp
    exact ⟨w.heap.size + 1, w.heap.size, rfl, rfl, by omega, by omega, Nat.le_refl _, cellr w.drew _ _ _, (Bk.new w.drew _ _).alloc _, (Below.refl _ _).drew.trans (below_two w.drew _ _)⟩
  intro v1 v2 w2 hS2 hK2
  obtain ⟨a, b, rfl, rfl, hab, ha, hb, hka, hkb, hbel⟩ := hK2
  have p0 := hka.cell 0
  have p1 := hka.cell 1
  have pf0 := hka.froz 0
  have pf1 := hka.froz 1
  simp only [List.getElem?_toArray] at p0 p1
  have KA := Lib.hid hka; have KB := Lib.hid hkb; have HB := Lib.hid hbel
  have R2 := Lib.hid (own_old HR.out hbel)
  clear hka hkb hbel
  refine wpZ_one (i := 10) (by kernel_rfl) rfl (fun K hK => ?_)
  go_simp
  have C3 := ((Chg.refl (· = a) w2).setCell (p := ⟨a, 0, none⟩) rfl (.int .i64 xv)).setCell (p := ⟨a, 1, none⟩) rfl (.int .i64 xf)
  have A3 := (KA.out.set 0 (.int .i64 xv)).set 1 (.int .i64 xf)
  have Z3 := C3.size
  generalize ((w2.setCell ⟨a, 0, none⟩ (.int .i64 xv)).setCell ⟨a, 1, none⟩ (.int .i64 xf)) = w3 at *
  have lt2 := HB.out.size
  have B3 := KB.out.chg C3 (fun e => hab e.symm)
  have R3 := own_chg R2.out C3 (fun g' e => by simp [Value.ownBlock] at e; omega)
  have go3 : ∀ o : Nat, w3.cell? ⟨g, o, none⟩ = w2.cell? ⟨g, o, none⟩ := fun o => C3.cell (p := ⟨g, o, none⟩) (by simp only; omega) (by simp only; omega)
  refine hK.out _ _ ⟨(go3 _).trans hS2.1, (go3 _).trans hS2.2.1, (go3 _).trans hS2.2.2.1, (go3 _).trans hS2.2.2.2⟩ (fun hS3 => ?_)
  clear hK K p0 p1 pf0 pf1 go3
  have p0 := B3.cell 0
  have p1 := B3.cell 1
  have pf0 := B3.froz 0
  have pf1 := B3.froz 1
  simp only [List.getElem?_toArray] at p0 p1
  have HA3 := Lib.hid A3; have HB3 := Lib.hid B3; have HR3 := Lib.hid R3; have HC3 := Lib.hid (Chg.far (chg_of HB.out (· = g)) C3 (fun b e => by omega))
  clear A3 B3 R3 C3 hS2
  refine wpZ_one (i := 11) (by kernel_rfl) rfl (fun K hK => ?_)
  go_simp
  have C4 := ((Chg.refl (· = b) w3).setCell (p := ⟨b, 0, none⟩) rfl (.int .i64 yv)).setCell (p := ⟨b, 1, none⟩) rfl (.int .i64 yf)
  have B4 := (HB3.out.set 0 (.int .i64 yv)).set 1 (.int .i64 yf)
  have Z4 := C4.size
  generalize ((w3.setCell ⟨b, 0, none⟩ (.int .i64 yv)).setCell ⟨b, 1, none⟩ (.int .i64 yf)) = w4 at *
  have A4 := HA3.out.chg C4 (fun e => hab e)
  have R4 := own_chg HR3.out C4 (fun g' e => by simp [Value.ownBlock] at e; omega)
  have go4 : ∀ o : Nat, w4.cell? ⟨g, o, none⟩ = w3.cell? ⟨g, o, none⟩ := fun o => C4.cell (p := ⟨g, o, none⟩) (by simp only; omega) (by simp only; omega)
  refine hK.out _ _ ⟨(go4 _).trans hS3.1, (go4 _).trans hS3.2.1, (go4 _).trans hS3.2.2.1, (go4 _).trans hS3.2.2.2⟩ (fun hS4 => ?_)
  clear hK K p0 p1 pf0 pf1 go4
  refine wpZ_done (by kernel_rfl) ?_
  have HC4 := Lib.hid (HC3.out.far C4 (fun b e => by omega))
  have a0 : w4.cell? ⟨a, 0, none⟩ = some (.int .i64 xv) := A4.cell 0
  have a1' : w4.cell? ⟨a, 1, none⟩ = some (.int .i64 xf) := A4.cell 1
  have b0 : w4.cell? ⟨b, 0, none⟩ = some (.int .i64 yv) := B4.cell 0
  have b1' : w4.cell? ⟨b, 1, none⟩ = some (.int .i64 yf) := B4.cell 1
  obtain ⟨i1, i2, i3, i4⟩ := hS4
  have HR4 := Lib.hid R4
  have R4n : w4.ownsRow 0 87 2 (.slice (some ⟨g, 0, none⟩) n c) n (l.flatMap encS) := by have h := R4; rw [HN.out] at h; exact h
  have f1 := R4n.frozenAt (i * 2)
  have f2 := R4n.frozenAt (i * 2 + 1)
  have f3 := R4n.frozenAt (j * 2)
  have f4 := R4n.frozenAt (j * 2 + 1)
  have hga : g ≠ a := by omega
  have hgb : g ≠ b := by omega
  have hag : a ≠ g := by omega
  have hbg : b ≠ g := by omega
  clear C4 A4 B4 R4 R4n hS3 a1 a2 b1 b2
  go_upto_region 2 with fail
  have C5 := ((Chg.refl (· = g) w4).setCell (p := ⟨g, i * 2, none⟩) rfl (.int .i64 yv)).setCell (p := ⟨g, i * 2 + 1, none⟩) rfl (.int .i64 yf)
  have R5 := RowS.put HR4.out HN.out hi ⟨yv, yf⟩
  have L5 : (l.set i ⟨yv, yf⟩).length = n := by rw [List.length_set]; exact HN.out
  simp only at R5
  clear i1 i2 i3 i4 f1 f2 f3 f4
  generalize ((w4.setCell ⟨g, i * 2, none⟩ (.int .i64 yv)).setCell ⟨g, i * 2 + 1, none⟩ (.int .i64 yf)) = w5 at *
  have a5 : w5.cell? ⟨a, 0, none⟩ = some (.int .i64 xv) := (C5.cell (p := ⟨a, 0, none⟩) (by simp only; have := KA.out.lt; omega) (by simp only; omega)).trans a0
  have a6 : w5.cell? ⟨a, 1, none⟩ = some (.int .i64 xf) := (C5.cell (p := ⟨a, 1, none⟩) (by simp only; have := KA.out.lt; omega) (by simp only; omega)).trans a1'
  obtain ⟨j1, j2⟩ := RowS.cell R5 (i := j) (by rw [L5]; exact hj)
  have R5n : w5.ownsRow 0 87 2 (.slice (some ⟨g, 0, none⟩) n c) n ((l.set i ⟨yv, yf⟩).flatMap encS) := by have h := R5; unfold RowS at h; rw [L5] at h; exact h
  have f3 := R5n.frozenAt (j * 2)
  have f4 := R5n.frozenAt (j * 2 + 1)
  have C6 := Lib.hid (((HC4.out.trans C5).setCell (p := ⟨g, j * 2, none⟩) rfl (.int .i64 xv)).setCell (p := ⟨g, j * 2 + 1, none⟩) rfl (.int .i64 xf))
  have R6 := Lib.hid (RowS.put R5 L5 hj ⟨xv, xf⟩)
  clear a0 a1' b0 b1' C5 R5 R5n L5
  go_wp2
  go_end0
  exact ⟨rfl, R6.out, C6.out⟩

theorem infoSpot : (Try.prog.info? 87).map (fun i => (i.zero, i.size, i.bytes)) = some (some (.agg #[.int .i64 0, .int .i64 0]), 2, 16) := by kernel_rfl
/-- A variable that holds a row of spots. -/
def SpM (w : World) (P : Nat) (v : Value) (l : List Sp) : Prop := Bk w P 89 #[v] ∧ RowS w v l
/-- What a call does to such a variable. -/
def StepS (P : Nat) (v : Value) (l' : List Sp) (w w' : World) : Prop := ∃ v', SpM w' P v' l' ∧ Chg (fun b => b = P ∨ v.ownBlock = some b) w w' ∧ (v'.ownBlock = v.ownBlock ∨ ∃ b, v'.ownBlock = some b ∧ w.heap.size ≤ b)
def PushR (P : Nat) (v : Value) (l' : List Sp) (w : World) (e : Ending) (w' : World) : Prop := e = .returned (.tuple #[]) ∧ StepS P v l' w w'
theorem rowS_slice {w : World} {v : Value} {l : List Sp} (h : RowS w v l) : ∃ A c, v = .slice A l.length c := by
  rcases h.2 with ⟨rfl, h0⟩ | ⟨g, cap, cur, rfl, _⟩
  · exact ⟨none, 0, by rw [h0]⟩
  · exact ⟨_, _, rfl⟩

theorem assert_spot (a b : Int) (W : World) : (Instr.typeAssert (.iface 87 (.agg #[.int .i64 a, .int .i64 b])) 20 87 false).run Try.prog W = .ok (.agg #[.int .i64 a, .int .i64 b]) W := by kernel_rfl
set_option maxRecDepth 10000 in
set_option maxHeartbeats 2000000 in
theorem spush_any (P : Nat) (v : Value) (l : List Sp) (x : Sp) (w : World) (hm : SpM w P v l) (hl : l.length ≤ 100000) :
    Calls Try.prog 111 #[.pointer (some ⟨P, 0, none⟩), .iface 87 (.agg #[.int .i64 x.v, .int .i64 x.f])] w (PushR P v (l ++ [x]) w) := by
  obtain ⟨hb, hr⟩ := hm
  obtain ⟨A, c, rfl⟩ := rowS_slice hr
  have HB := Lib.hid hb; have HR := Lib.hid hr
  have p0 : w.cell? ⟨P, 0, none⟩ = some (.slice A l.length c) := hb.cell 0
  have hPl := hb.lt
  obtain ⟨xv, xf⟩ := x
  obtain ⟨i0, hi0, hz0, hz1, hz2⟩ := info_parts infoSpot
  clear hb hr
  go_enter Try.func111, Try.ntmps111
  go_wp2_with fail
  refine wp_region_zs (fun W => W.cell? ⟨P, 0, none⟩ = some (.slice A l.length c)) [9] (by kernel_rfl) ?_
  have TA := fun W => assert_spot xv xf W
  refine wpZ_batch (is := [0, 1, 2, 3, 4, 5]) (by kernel_rfl) p0 (a1 := ?_) ?_ ?_
  rotate_left
  · repeat
      (refine SeqY.run (v := ?_) rfl (by rfl) ?_ ?_
       rotate_left
       · (intro W hS; (try dsimp only at hS); go_simp; (try with_reducible rfl)))
    exact SeqY.nil
  clear TA
  refine wpZ_one (i := 6) (by kernel_rfl) rfl (fun K hK => ?_)
  go_simp
  refine hK.out _ _ (cell_later (w := w.drew) p0) (fun hS3 => ?_)
  clear hK K
  refine wpZ_one (i := 7) (by kernel_rfl) rfl (fun K hK => ?_)
  have ALB : Below w.heap.size w (w.drew.alloc (.cells #[.int .i64 xv, .int .i64 xf] 87)) := (Below.refl _ _).drew.alloc (Nat.le_refl _) _
  have N10 : Bk (w.drew.alloc (.cells #[.int .i64 xv, .int .i64 xf] 87)) w.heap.size 87 #[.int .i64 xv, .int .i64 xf] := Bk.new w.drew _ _
  have R10 := own_old HR.out ALB
  have B10 := HB.out.old ALB
  refine step_append_own rfl (.tmp 7) (.tmp 10) 89 rfl 0 87 i0 (.agg #[.int .i64 0, .int .i64 0]) 2 16 Try.underlying89 hi0 hz0 hz1 hz2 rfl (by decide) (.slice A l.length c) l.length (l.flatMap encS) rfl R10
    ⟨w.heap.size, 0, none⟩ 1 1 [.int .i64 xv, .int .i64 xf] rfl rfl (fun j' u hj' => ?_) (by simp [Value.oneCell']) (by unfold maxLen; omega) (by omega) (Nat.zero_le _) ?_
  · have h := N10.cell j'
    have ea : (⟨w.heap.size, 0, none⟩ : Addr).add j' = ⟨w.heap.size, j', none⟩ := by unfold Addr.add; split <;> simp_all
    rw [ea]
    exact h.trans (by simpa using hj')
  intro v2 W2 hown2 hgrow hat
  have hv2 : ∃ A2 c2, v2 = .slice A2 (l.length + 1) c2 := by
    rcases hown2.2 with ⟨_, h0⟩ | ⟨_, _, _, rfl, _⟩
    · omega
    · exact ⟨_, _, rfl⟩
  obtain ⟨A2, c2, rfl⟩ := hv2
  have B11 := B10.grown hgrow (fun e => own_ne R10 e.symm B10 (by decide) rfl)
  have pc : W2.cell? ⟨P, 0, none⟩ = some (.slice A l.length c) := B11.cell 0
  have pf : W2.frozen? ⟨P, 0, none⟩ = false := B11.froz 0
  refine hK.out _ _ pc (fun hS4 => ?_)
  clear hK K
  have SZ := ALB.size
  have RW : W2.ownsRow 0 87 2 (.slice A2 (l.length + 1) c2) (l ++ [(⟨xv, xf⟩ : Sp)]).length ((l ++ [(⟨xv, xf⟩ : Sp)]).flatMap encS) := by
    rw [List.length_append, List.flatMap_append]; exact hown2
  have R12 := Lib.hid (own_chg RW ((Chg.refl (· = P) W2).setCell (p := ⟨P, 0, none⟩) rfl (.slice A2 (l.length + 1) c2)) (fun g e => own_ne RW e B11 (by decide)))
  have B12 := Lib.hid (B11.set 0 (.slice A2 (l.length + 1) c2))
  have CC := Lib.hid ((((chg_of ALB (fun b => b = P ∨ (Value.slice A l.length c).ownBlock = some b)).grown hgrow (fun k e _ => .inr e))).setCell (p := ⟨P, 0, none⟩) (.inl rfl) (.slice A2 (l.length + 1) c2))
  have AT : Hid ((Value.slice A2 (l.length + 1) c2).ownBlock = (Value.slice A l.length c).ownBlock ∨ ∃ b, (Value.slice A2 (l.length + 1) c2).ownBlock = some b ∧ w.heap.size ≤ b) := by
    rcases hat with e | e
    · exact .inl e
    · exact .inr ⟨_, e, SZ⟩
  clear hown2 hgrow hat B10 R10 N10 ALB RW B11 hS3 SZ
  refine wpZ_batch (is := [8]) (by kernel_rfl) hS4 (a1 := ?_) ?_ ?_
  rotate_left
  · repeat
      (refine SeqY.run (v := ?_) rfl (by rfl) ?_ ?_
       rotate_left
       · (intro W hS; (try dsimp only at hS); go_simp; (try with_reducible rfl)))
    exact SeqY.nil
  refine wpZ_end (i := 9) (by kernel_rfl) rfl (fun K hK => ?_)
  go_simp
  refine hK.out _ _ ?_
  clear hK K hS4
  refine wpZ_done (by kernel_rfl) ?_
  clear pc pf p0
  go_wp2
  go_end0
  exact ⟨rfl, _, ⟨B12.out, R12.out⟩, CC.out, AT.out⟩

theorem own_cutK {w : World} {base : Nat} {e : TypeId} {sz g k m c : Nat} {xs : List Value} (h : w.ownsRow base e sz (.slice (some ⟨g, 0, none⟩) m c) m xs) (hk : k ≤ m) : w.ownsRow base e sz (.slice (some ⟨g, 0, none⟩) k c) k (xs.take (k * sz)) := by
  have hl := h.1
  have hks : k * sz ≤ m * sz := Nat.mul_le_mul_right _ hk
  refine ⟨by rw [List.length_take, hl]; omega, ?_⟩
  rcases h.2 with ⟨hh, _⟩ | ⟨g', cap, cur, e', hb, hg, h1, h2, h3, h4⟩
  · cases hh
  · injection e' with e1 _ e3
    injection e1 with e1
    injection e1 with e1
    subst e1 e3
    refine .inr ⟨g, c, cur, rfl, hb, hg, by omega, h2, h3, ?_⟩
    rw [← h4, List.take_take]
    congr 1
    omega
def SPopR (P : Nat) (v : Value) (x : Sp) (l' : List Sp) (w : World) (e : Ending) (w' : World) : Prop := e = .returned (.iface 87 (.agg #[.int .i64 x.v, .int .i64 x.f])) ∧ StepS P v l' w w'

set_option maxRecDepth 10000 in
set_option maxHeartbeats 2000000 in
theorem spop_any (P : Nat) (v : Value) (l : List Sp) (x : Sp) (w : World) (hm : SpM w P v (l ++ [x])) (hl : l.length ≤ 100000) :
    Calls Try.prog 110 #[.pointer (some ⟨P, 0, none⟩)] w (SPopR P v x l w) := by
  obtain ⟨hb, hr⟩ := hm
  obtain ⟨g, c, rfl⟩ : ∃ g c, v = .slice (some ⟨g, 0, none⟩) (l.length + 1) c := by
    rcases hr.2 with ⟨_, e⟩ | ⟨g, cap, cur, e, _⟩
    · simp at e
    · exact ⟨g, cap, by rw [e]; simp⟩
  have hcap : l.length + 1 ≤ c ∧ c ≤ 2 ^ 63 - 1 := by
    rcases hr.2 with ⟨e, _⟩ | ⟨g', cap, cur, e, _, _, h1, h2, _⟩
    · cases e
    · injection e with _ _ e3
      subst e3
      simp at h1
      exact ⟨h1, h2⟩
  obtain ⟨hcap1, hcap2⟩ := hcap
  have hcap0 : ¬ c = 0 := by omega
  have HB := Lib.hid hb; have HR := Lib.hid hr
  have p0 : w.cell? ⟨P, 0, none⟩ = some (.slice (some ⟨g, 0, none⟩) (l.length + 1) c) := hb.cell 0
  have pf := hb.froz 0
  have hPl := hb.lt
  obtain ⟨a0, a1⟩ := RowS.cell hr (i := l.length) (by simp)
  rw [show sp (l ++ [x]) l.length = x by unfold sp; simp] at a0 a1
  have R1 : w.ownsRow 0 87 2 (.slice (some ⟨g, 0, none⟩) l.length c) l.length (l.flatMap encS) := by
    have h := own_cutK (k := l.length) (show w.ownsRow 0 87 2 (.slice (some ⟨g, 0, none⟩) (l.length + 1) c) (l.length + 1) _ by have h := hr; unfold RowS at h; simpa using h) (by omega)
    rw [List.take_append_of_le_length (by rw [flat_spots]; exact Nat.le_refl _), List.take_of_length_le (by rw [flat_spots]; exact Nat.le_refl _)] at h
    exact h
  have hgl := own_lt hr (g := g) rfl
  have ngP : g ≠ P := own_ne hr rfl hb (by decide)
  have HR1 := Lib.hid R1
  obtain ⟨xv, xf⟩ := x
  simp only at a0 a1
  clear hb hr R1
  go_enter Try.func110, Try.ntmps110
  go_wp2_with fail
  go_ret
  have C1 := (Chg.refl (fun b => b = P ∨ (Value.slice (some ⟨g, 0, none⟩) (l.length + 1) c).ownBlock = some b) w).setCell (p := ⟨P, 0, none⟩) (.inl rfl) (.slice (some ⟨g, 0, none⟩) l.length c)
  have B1 := HB.out.set 0 (.slice (some ⟨g, 0, none⟩) l.length c)
  have R2 := own_chg HR1.out ((Chg.refl (· = P) w).setCell (p := ⟨P, 0, none⟩) rfl (.slice (some ⟨g, 0, none⟩) l.length c)) (fun g' e => by simp [Value.ownBlock] at e; omega)
  exact ⟨rfl, _, ⟨B1.alloc _, own_old R2 (Below.of_alloc _ _)⟩, C1.alloc _, .inl rfl⟩
end Go.Proofs.Ytbholafggbdieaa
