/- graph.Sorted and graph.Reverse. -/
import Derived.Test.YtbholafggbdieaaSortK
import Derived.Test.YtbholafggbdieaaStrongWalk
import Derived.Test.YtbholafggbdieaaZones
import Derived.Test.YtbholafggbdieaaWeakRoot
import Derived.Test.YtbholafggbdieaaBegin
import Derived.Test.YtbholafggbdieaaShelf
namespace Go.Proofs.Ytbholafggbdieaa
open Go.RowKit Go.Sort Go.Shelf

instance : Inhabited Ed := ⟨⟨0, 0, 0⟩⟩
/-- The first that is not zero. -/
def orG : List Int → Int
  | [] => 0
  | x :: l => if x = 0 then orG l else x
set_option maxRecDepth 10000 in
set_option maxHeartbeats 1000000 in
theorem or_any (l : List Int) (v : Value) (w : World) (hv : Sl 1 encN w w.heap.size v l) :
    Calls Try.prog 75 #[v] w fun e w' => e = .returned (.int .i64 (orG l)) ∧ w' = w := by
  obtain ⟨A, c, rfl, hac, hcm, hA⟩ := hv
  unfold maxLen at hcm
  have HA := Lib.hid hA
  clear hA
  generalize hlen : l.length = len at *
  have HL := Lib.hid hlen; clear hlen
  go_enter Try.func75, Try.ntmps75
  go_wp2
  go_loop [8] (fun i => ∃ k : Nat, k ≤ len ∧ i = .int .i64 k ∧ Hid (orG l = orG (l.drop k))) (fun i => len - (intOf i).toNat)
  case atStart => exact ⟨0, Nat.zero_le _, rfl, rfl⟩
  case round =>
    obtain ⟨k, hk, rfl, hr⟩ := hrel
    by_cases hlt : k < len
    · obtain ⟨b, o, rfl, hbb, hc⟩ := HA.out (by omega)
      obtain ⟨x, hx⟩ : ∃ x, l[k]? = some x := ⟨_, List.getElem?_eq_getElem (by rw [HL.out]; exact hlt)⟩
      have c0 : w.cell? ⟨b, o + k, none⟩ = some (.int .i64 x) := by simpa using hc k x hx 0 _ rfl
      have DR : l.drop k = x :: l.drop (k + 1) := by
        obtain ⟨h1, h2⟩ := List.getElem?_eq_some_iff.1 hx
        rw [List.drop_eq_getElem_cons h1, h2]
      have OR : orG (l.drop k) = if x = 0 then orG (l.drop (k + 1)) else x := by rw [DR]; rfl
      by_cases h0 : x = 0
      · rw [if_pos h0] at OR
        have NX : Hid (orG l = orG (l.drop (k + 1))) := hr.out.trans OR
        subst h0
        clear hx hc DR OR hr
        go_wp2
        go_round
        case rel => exact ⟨k + 1, by omega, by go_num, NX.out⟩
        case measure => simp [intOf]; omega
      · rw [if_neg h0] at OR
        have NX : Hid (orG l = x) := hr.out.trans OR
        have t0 : (x != 0) = true := by simpa using h0
        clear hx hc DR OR hr h0
        go_wp2
        go_ret
        exact ⟨by rw [NX.out]; rfl, rfl⟩
    · obtain rfl : k = len := by omega
      have NX : Hid (orG l = 0) := by
        unfold Hid
        rw [hr.out, List.drop_eq_nil_of_le (by rw [HL.out]; exact Nat.le_refl _)]; rfl
      clear hr
      go_wp2
      go_ret
      exact ⟨by rw [NX.out]; rfl, rfl⟩
def cfE (x y : Ed) : Int := orG [Lib.compareInt x.f y.f, Lib.compareInt x.t y.t, Lib.compareInt x.g y.g]

set_option maxRecDepth 10000 in
set_option maxHeartbeats 1000000 in
theorem order_any (x y : Ed) (w : World) : Calls Try.prog 67 #[.agg #[.int .i64 x.f, .int .i64 x.t, .int .i64 x.g], .agg #[.int .i64 y.f, .int .i64 y.t, .int .i64 y.g]] w fun e w' => e = .returned (.int .i64 (cfE x y)) ∧ ∃ q os, w' = Sort.grow (w.drewN q) os := by
  have CM1 := Lib.hid (fun W => Try.cmp_Compare_int x.f y.f W)
  have CM2 := Lib.hid (fun W => Try.cmp_Compare_int x.t y.t W)
  have CM3 := Lib.hid (fun W => Try.cmp_Compare_int x.g y.g W)
  have OR := Lib.hid (fun W (h : Sl 1 encN W W.heap.size (.slice (some ⟨w.heap.size + 1 + 1, 0, none⟩) 3 3) [Lib.compareInt x.f y.f, Lib.compareInt x.t y.t, Lib.compareInt x.g y.g]) => or_any _ _ W h)
  have HC : Hid (cfE x y = orG [Lib.compareInt x.f y.f, Lib.compareInt x.t y.t, Lib.compareInt x.g y.g]) := rfl
  obtain ⟨xf, xt, xg⟩ := x
  obtain ⟨yf, yt, yg⟩ := y
  simp only at OR HC CM1 CM2 CM3
  rw [HC.out]
  generalize Lib.compareInt xf yf = a at *
  generalize Lib.compareInt xt yt = b at *
  generalize Lib.compareInt xg yg = c at *
  have X := (Bk.new w 46 #[.int .i64 xf, .int .i64 xt, .int .i64 xg]).alloc (.cells #[.int .i64 yf, .int .i64 yt, .int .i64 yg] 46)
  have Y := cellr w (.cells #[.int .i64 xf, .int .i64 xt, .int .i64 xg] 46) #[.int .i64 yf, .int .i64 yt, .int .i64 yg] 46
  have GR : Hid ((((w.alloc (.cells #[.int .i64 xf, .int .i64 xt, .int .i64 xg] 46)).alloc (.cells #[.int .i64 yf, .int .i64 yt, .int .i64 yg] 46)).alloc (.cells #[.int .i64 a, .int .i64 b, .int .i64 c] 3)).drew = Sort.grow (w.drewN 1) #[.cells #[.int .i64 xf, .int .i64 xt, .int .i64 xg] 46, .cells #[.int .i64 yf, .int .i64 yt, .int .i64 yg] 46, .cells #[.int .i64 a, .int .i64 b, .int .i64 c] 3]) := by
    unfold Hid
    rw [Sort.alloc_eq_grow, Sort.alloc_eq_grow, Sort.alloc_eq_grow, Sort.grow_grow, Sort.grow_grow, Sort.drew_grow]
    rfl
  have N3 := (Bk.new ((w.alloc (.cells #[.int .i64 xf, .int .i64 xt, .int .i64 xg] 46)).alloc (.cells #[.int .i64 yf, .int .i64 yt, .int .i64 yg] 46)) 3 #[.int .i64 a, .int .i64 b, .int .i64 c]).drew
  rw [World.size_alloc, World.size_alloc] at N3
  have OR2 := Lib.hid (OR.out _ (sl_intV (l := [a, b, c]) N3 rfl (by unfold maxLen; omega)))
  clear OR N3
  go_enter Try.func67, Try.ntmps67
  go_wp2_with fail
  refine wp_region_zs (fun W => W.cell? ⟨w.heap.size, 0, none⟩ = some (.int .i64 xf) ∧ W.cell? ⟨w.heap.size, 1, none⟩ = some (.int .i64 xt) ∧ W.cell? ⟨w.heap.size, 2, none⟩ = some (.int .i64 xg) ∧ W.cell? ⟨w.heap.size + 1, 0, none⟩ = some (.int .i64 yf) ∧ W.cell? ⟨w.heap.size + 1, 1, none⟩ = some (.int .i64 yt) ∧ W.cell? ⟨w.heap.size + 1, 2, none⟩ = some (.int .i64 yg)) [] (by kernel_rfl) ?_
  refine wpZ_batch (is := [0, 1, 2, 3, 5, 6, 7, 8, 10, 11, 12, 13]) (by kernel_rfl) ⟨X.cell 0, X.cell 1, X.cell 2, Y.cell 0, Y.cell 1, Y.cell 2⟩ (a1 := ?_) ?_ ?_
  rotate_left
  · repeat
      (refine SeqY.run (v := ?_) rfl (by rfl) ?_ ?_
       rotate_left
       · (intro W hS; (try dsimp only at hS); go_simp; (try with_reducible rfl)))
    exact SeqY.nil
  have SS : ∀ o : Obj, _ := fun o => (⟨(X.drew.alloc o).cell 0, (X.drew.alloc o).cell 1, (X.drew.alloc o).cell 2, (Y.drew.alloc o).cell 0, (Y.drew.alloc o).cell 1, (Y.drew.alloc o).cell 2⟩ : _ ∧ _ ∧ _ ∧ _ ∧ _ ∧ _)
  refine wpZ_one (i := 4) (by kernel_rfl) rfl (fun K hK => ?_)
  go_simp
  refine (CM1.out _).mono ?_
  rintro e w2 ⟨rfl, rfl⟩
  refine hK.out _ _ ⟨X.cell 0, X.cell 1, X.cell 2, Y.cell 0, Y.cell 1, Y.cell 2⟩ (fun hS => ?_)
  clear hK K
  refine wpZ_one (i := 9) (by kernel_rfl) rfl (fun K hK => ?_)
  go_simp
  refine (CM2.out _).mono ?_
  rintro e w2 ⟨rfl, rfl⟩
  refine hK.out _ _ ⟨X.cell 0, X.cell 1, X.cell 2, Y.cell 0, Y.cell 1, Y.cell 2⟩ (fun hS => ?_)
  clear hK K
  refine wpZ_one (i := 14) (by kernel_rfl) rfl (fun K hK => ?_)
  go_simp
  refine (CM3.out _).mono ?_
  rintro e w2 ⟨rfl, rfl⟩
  refine hK.out _ _ ⟨X.cell 0, X.cell 1, X.cell 2, Y.cell 0, Y.cell 1, Y.cell 2⟩ (fun hS => ?_)
  clear hK K
  refine wpZ_one (i := 15) (by kernel_rfl) rfl (fun K hK => ?_)
  go_simp
  refine hK.out _ _ (SS _) (fun hS => ?_)
  clear hK K SS
  refine wpZ_one (i := 16) (by kernel_rfl) rfl (fun K hK => ?_)
  go_simp
  refine OR2.out.mono ?_
  rintro e w2 ⟨rfl, rfl⟩
  refine hK.out _ _ hS (fun hS => ?_)
  clear hK K
  refine wpZ_batch (is := [17]) (by kernel_rfl) hS (a1 := ?_) ?_ ?_
  rotate_left
  · repeat
      (refine SeqY.run (v := ?_) rfl (by rfl) ?_ ?_
       rotate_left
       · (intro W hS; (try dsimp only at hS); go_simp; (try with_reducible rfl)))
    exact SeqY.nil
  refine wpZ_done (by kernel_rfl) ?_
  go_wp2
  go_ret
  exact ⟨rfl, 1, _, GR.out⟩

theorem ltE (x y : Ed) : ltOf cfE x y = decide (x.f < y.f ∨ (x.f = y.f ∧ (x.t < y.t ∨ (x.t = y.t ∧ x.g < y.g)))) := by
  unfold ltOf cfE Lib.compareInt orG
  rcases Int.lt_trichotomy x.f y.f with h | h | h
  · simp [h]
  · simp only [h, Int.lt_irrefl, if_false, if_true]
    rcases Int.lt_trichotomy x.t y.t with g | g | g
    · simp [g, orG]
    · simp only [g, Int.lt_irrefl, if_false, if_true, orG]
      rcases Int.lt_trichotomy x.g y.g with k | k | k
      · simp [k]
      · simp [k]
      · have : ¬ x.g < y.g := by omega
        simp [k, this]
    · have : ¬ x.t < y.t := by omega
      have h2 : ¬ x.t = y.t := by omega
      simp [g, this, h2, orG]
  · have : ¬ x.f < y.f := by omega
    have h2 : ¬ x.f = y.f := by omega
    simp [h, this, h2]
theorem swoE : Sort.SWO (ltOf cfE) where
  irrefl x := by rw [ltE]; simp
  trans x y z h1 h2 := by rw [ltE] at *; simp only [decide_eq_true_eq] at *; omega
  ntrans x y z h1 h2 := by rw [ltE] at *; simp only [decide_eq_false_iff_not] at *; omega
theorem totE : ∀ x y, ltOf cfE x y = false → ltOf cfE y x = false → x = y := by
  intro x y h1 h2
  rw [ltE] at h1 h2
  simp only [decide_eq_false_iff_not] at h1 h2
  obtain ⟨a, b, c⟩ := x
  obtain ⟨d, e, f⟩ := y
  simp only at h1 h2
  have e1 : a = d := by omega
  have e2 : b = e := by omega
  have e3 : c = f := by omega
  rw [e1, e2, e3]
/-- Edges in order. -/
def sortE (es : List Ed) : List Ed := es.mergeSort fun x y => !ltOf cfE y x
theorem sortE_perm (es : List Ed) : (sortE es).Perm es := List.mergeSort_perm _ _
theorem sortE_len (es : List Ed) : (sortE es).length = es.length := (sortE_perm es).length_eq
theorem flat_edges (l : List Ed) : (l.flatMap encE).length = l.length * 3 := by
  induction l with
  | nil => rfl
  | cons x l ih => rw [List.flatMap_cons, List.length_append, ih, List.length_cons]; simp [encE]; omega
/-- A row of edges sorted by the library. -/
theorem sortE_any (g c : Nat) (es : List Ed) (w : World) (hl : es.length ≤ 100000) (h : w.ownsRow 0 46 3 (.slice (some ⟨g, 0, none⟩) es.length c) es.length (es.flatMap encE)) :
    Calls Try.prog 66 #[.slice (some ⟨g, 0, none⟩) es.length c, .func (.func 67) #[] #[]] w fun e w' => e = .returned (.tuple #[]) ∧ Sl 3 encE w' w'.heap.size (.slice (some ⟨g, 0, none⟩) es.length c) (sortE es) ∧ Chg (· = g) w w' := by
  have hk : ∀ x : Ed, (encE x).length = 3 := fun _ => rfl
  have hb := own_lt h (g := g) rfl
  have hcap : es.length ≤ c ∧ c ≤ maxLen := by
    rcases h.2 with ⟨e', _⟩ | ⟨g', cap, cur, e', _, _, h1, h2, _⟩
    · cases e'
    · injection e' with _ _ e3; subst e3; exact ⟨h1, h2⟩
  have H := holdsK_of_own hk (by decide) h
  have eg : ∀ args w, (callFunc 67 args).run Try.prog w = .ok (.enter 67 args) w := enters_of Try.func67 (by kernel_rfl) rfl
  have hcmp : CmpLays Try.prog 67 #[] encE 3 cfE g 0 es.toArray.size w := fun m os dk _ x y => order_any x y _
  have := AnyQ.slices_SortFunc_total Try.sortEdge 3 Try.isAgg46 Try.sizeOf46 encE hk (fun x v hv => by simp [encE] at hv; rcases hv with rfl | rfl | rfl <;> rfl) cfE swoE 67 #[] g 0 c es.toArray w eg hcmp H hb (by simp; omega) totE
  have e0 : es.toArray.size = es.length := by simp
  rw [e0, show es.toArray.toList = es from rfl, show (es.mergeSort fun x y => !ltOf cfE y x) = sortE es from rfl] at this
  refine Calls.mono this ?_
  rintro e w' ⟨rfl, n, os, rfl⟩
  have hs : (sortE es).toArray.size = es.toArray.size := by simp [sortE_len]
  refine ⟨rfl, ?_, chg_sortedK⟩
  have h9 := sl_sortedK (c := c) (n := es.length) (m := n) (os := os) hk H hb hs (by simp [sortE_len]) hcap.1 hcap.2
  exact h9
end Go.Proofs.Ytbholafggbdieaa
