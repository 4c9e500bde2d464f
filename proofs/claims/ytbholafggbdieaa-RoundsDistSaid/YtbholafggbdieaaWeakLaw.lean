/- paths.Weak in plain lists: each vertex gets the least vertex that it is joined to, and so it does by rounds. No program in sight. -/
import Derived.Test.YtbholafggbdieaaRoundEnd
namespace Go.Proofs.Ytbholafggbdieaa

def upAt (up : List Nat) (v : Nat) : Nat := up[v]?.getD 0
def rootF : Nat → List Nat → Nat → Nat
  | 0, _, v => v
  | f + 1, up, v => if upAt up v = v then v else rootF f up (upAt up v)
def rootG (up : List Nat) (v : Nat) : Nat := rootF v up v
def WfUp (up : List Nat) : Prop := ∀ v, upAt up v ≤ v
theorem rootF_enough {up : List Nat} (h : WfUp up) : ∀ (f g v : Nat), v ≤ f → v ≤ g → rootF f up v = rootF g up v := by
  intro f
  induction f with
  | zero =>
    intro g v hf hg
    obtain rfl : v = 0 := by omega
    cases g with
    | zero => rfl
    | succ g =>
      have := h 0
      unfold rootF
      rw [if_pos (by omega)]
  | succ f ih =>
    intro g v hf hg
    cases g with
    | zero =>
      obtain rfl : v = 0 := by omega
      have := h 0
      unfold rootF
      rw [if_pos (by omega)]
    | succ g =>
      unfold rootF
      split
      · rfl
      · have := h v
        exact ih g _ (by omega) (by omega)
theorem rootG_self {up : List Nat} (_h : WfUp up) {v : Nat} (hv : upAt up v = v) : rootG up v = v := by
  unfold rootG
  cases v with
  | zero => rfl
  | succ v => unfold rootF; rw [if_pos hv]
theorem rootG_up {up : List Nat} (h : WfUp up) (v : Nat) : rootG up (upAt up v) = rootG up v := by
  by_cases hv : upAt up v = v
  · rw [hv]
  · have h1 := h v
    unfold rootG
    rw [rootF_enough h v (v - 1 + 1) v (by omega) (by omega)]
    conv => rhs; unfold rootF
    rw [if_neg hv]
    exact rootF_enough h _ _ _ (by omega) (by omega)
theorem rootG_le {up : List Nat} (h : WfUp up) : ∀ v, rootG up v ≤ v ∧ upAt up (rootG up v) = rootG up v := by
  intro v
  induction v using Nat.strongRecOn with
  | ind v ih =>
    by_cases hv : upAt up v = v
    · rw [rootG_self h hv]; exact ⟨Nat.le_refl _, hv⟩
    · rw [← rootG_up h v]
      have := h v
      have h2 := ih (upAt up v) (by omega)
      exact ⟨by omega, h2.2⟩
theorem upAt_set {up : List Nat} {k x v : Nat} (hk : k < up.length) : upAt (up.set k x) v = if v = k then x else upAt up v := by
  unfold upAt
  rw [List.getElem?_set]
  by_cases h : k = v
  · subst h; simp [hk]
  · rw [if_neg h, if_neg (fun e => h e.symm)]
theorem upAt_range {n v : Nat} (hv : v < n) : upAt (List.range n) v = v := by
  unfold upAt; simp [hv]
theorem wf_range (n : Nat) : WfUp (List.range n) := by
  intro v
  by_cases hv : v < n
  · rw [upAt_range hv]; exact Nat.le_refl _
  · unfold upAt; simp [hv]
def uniG (up : List Nat) (a b : Nat) : List Nat := up.set (max (rootG up a) (rootG up b)) (min (rootG up a) (rootG up b))
theorem uni_wf {up : List Nat} (h : WfUp up) {a b : Nat} (ha : a < up.length) (hb : b < up.length) : WfUp (uniG up a b) := by
  intro v
  have h1 := (rootG_le h a).1; have h2 := (rootG_le h b).1
  unfold uniG
  rw [upAt_set (by omega)]
  split
  · omega
  · exact h v
theorem uni_root {up : List Nat} (h : WfUp up) {a b : Nat} (ha : a < up.length) (hb : b < up.length) :
    ∀ v, rootG (uniG up a b) v = if rootG up v = max (rootG up a) (rootG up b) then min (rootG up a) (rootG up b) else rootG up v := by
  have h1 := rootG_le h a; have h2 := rootG_le h b
  have hw := uni_wf h ha hb
  have hat : ∀ v, upAt (uniG up a b) v = if v = max (rootG up a) (rootG up b) then min (rootG up a) (rootG up b) else upAt up v := fun v => upAt_set (by omega)
  have hmax : upAt up (max (rootG up a) (rootG up b)) = max (rootG up a) (rootG up b) := by
    rcases Nat.le_total (rootG up a) (rootG up b) with g | g
    · rw [Nat.max_eq_right g]; exact h2.2
    · rw [Nat.max_eq_left g]; exact h1.2
  have hmin : upAt up (min (rootG up a) (rootG up b)) = min (rootG up a) (rootG up b) := by
    rcases Nat.le_total (rootG up a) (rootG up b) with g | g
    · rw [Nat.min_eq_left g]; exact h1.2
    · rw [Nat.min_eq_right g]; exact h2.2
  intro v
  induction v using Nat.strongRecOn with
  | ind v ih =>
    have hv := hat v
    by_cases hr : upAt up v = v
    · rw [rootG_self h hr]
      by_cases hm : v = max (rootG up a) (rootG up b)
      · rw [if_pos hm] at hv ⊢
        rw [← rootG_up hw v, hv]
        refine rootG_self hw ?_
        rw [hat]
        split
        · rfl
        · exact hmin
      · rw [if_neg hm] at hv ⊢
        exact rootG_self hw (by rw [hv]; exact hr)
    · have hne : v ≠ max (rootG up a) (rootG up b) := fun e => hr (by rw [e]; exact hmax)
      rw [if_neg hne] at hv
      have hlt := h v
      rw [← rootG_up hw v, hv, ih _ (by omega), rootG_up h]
theorem set_root {up : List Nat} (h : WfUp up) {v : Nat} (hv : v < up.length) : WfUp (up.set v (rootG up v)) ∧ ∀ u, rootG (up.set v (rootG up v)) u = rootG up u := by
  have h1 := rootG_le h v
  have hat : ∀ u, upAt (up.set v (rootG up v)) u = if u = v then rootG up v else upAt up u := fun u => upAt_set hv
  have hw : WfUp (up.set v (rootG up v)) := by
    intro u; rw [hat]; split
    · omega
    · exact h u
  refine ⟨hw, fun u => ?_⟩
  induction u using Nat.strongRecOn with
  | ind u ih =>
    have hu := hat u
    by_cases e : u = v
    · rw [if_pos e] at hu
      subst e
      by_cases hr : rootG up u = u
      · rw [hr] at hu
        rw [hr]
        rw [hr] at hw
        exact rootG_self hw hu
      · rw [← rootG_up hw u, hu]
        refine rootG_self hw ?_
        rw [hat, if_neg hr]; exact h1.2
    · rw [if_neg e] at hu
      by_cases hr : upAt up u = u
      · rw [rootG_self h hr]; exact rootG_self hw (by rw [hu]; exact hr)
      · have := h u
        rw [← rootG_up hw u, hu, ih _ (by omega), rootG_up h]

/-- Joined, whichever way edges go. -/
inductive Jn (es : List Ed) (u : Nat) : Nat → Prop
  | refl : Jn es u u
  | fwd {v w : Nat} : Jn es u v → Eg es v w → Jn es u w
  | bwd {v w : Nat} : Jn es u v → Eg es w v → Jn es u w
theorem Jn.trans {es : List Ed} {u v w : Nat} (h : Jn es u v) (h' : Jn es v w) : Jn es u w := by
  induction h' with
  | refl => exact h
  | fwd _ e ih => exact ih.fwd e
  | bwd _ e ih => exact ih.bwd e
theorem Jn.symm {es : List Ed} {u v : Nat} (h : Jn es u v) : Jn es v u := by
  induction h with
  | refl => exact .refl
  | fwd _ e ih => exact (Jn.bwd .refl e).trans ih
  | bwd _ e ih => exact (Jn.fwd .refl e).trans ih

def upG (n : Nat) (es : List Ed) : List Nat := es.foldl (fun up e => uniG up e.f.toNat e.t.toNat) (List.range n)
structure UInv (n : Nat) (es : List Ed) (k : Nat) (up : List Nat) : Prop where
  len : up.length = n
  wf : WfUp up
  sound : ∀ v, v < n → Jn es v (rootG up v)
  same : ∀ e ∈ es.take k, rootG up e.f.toNat = rootG up e.t.toNat
theorem uinv_begin (n : Nat) (es : List Ed) : UInv n es 0 (List.range n) :=
  ⟨by simp, wf_range n, fun v hv => by rw [rootG_self (wf_range n) (upAt_range hv)]; exact .refl, fun e he => by simp at he⟩
theorem uinv_step {n : Nat} {es : List Ed} {k : Nat} {up : List Nat} (h : UInv n es k up) {e : Ed} (he : es[k]? = some e) (f0 : 0 ≤ e.f) (f1 : e.f < n) (t0 : 0 ≤ e.t) (t1 : e.t < n) : UInv n es (k + 1) (uniG up e.f.toNat e.t.toNat) := by
  have ha : e.f.toNat < up.length := by rw [h.len]; omega
  have hb : e.t.toNat < up.length := by rw [h.len]; omega
  have hr := uni_root h.wf ha hb
  have mem : e ∈ es := List.mem_of_getElem? he
  have ja : Jn es (rootG up e.f.toNat) (rootG up e.t.toNat) :=
    (h.sound _ (by omega)).symm.trans ((Jn.fwd .refl ⟨e, mem, by omega, by omega⟩).trans (h.sound e.t.toNat (by omega)))
  have jm : Jn es (max (rootG up e.f.toNat) (rootG up e.t.toNat)) (min (rootG up e.f.toNat) (rootG up e.t.toNat)) := by
    rcases Nat.le_total (rootG up e.f.toNat) (rootG up e.t.toNat) with g | g
    · rw [Nat.max_eq_right g, Nat.min_eq_left g]; exact ja.symm
    · rw [Nat.max_eq_left g, Nat.min_eq_right g]; exact ja
  refine ⟨by unfold uniG; rw [List.length_set]; exact h.len, uni_wf h.wf ha hb, fun v hv => ?_, fun x hx => ?_⟩
  · rw [hr]
    split
    · rename_i hm
      have := h.sound v hv
      rw [hm] at this
      exact this.trans jm
    · exact h.sound v hv
  · rw [hr, hr]
    rw [List.take_add_one, he] at hx
    simp only [Option.toList, List.mem_append, List.mem_singleton] at hx
    rcases hx with hx | rfl
    · rw [h.same x hx]
    · split <;> split <;> omega
theorem upG_take (n : Nat) {es : List Ed} {k : Nat} {e : Ed} (he : es[k]? = some e) : upG n (es.take (k + 1)) = uniG (upG n (es.take k)) e.f.toNat e.t.toNat := by
  unfold upG; rw [List.take_add_one, he, List.foldl_append]; rfl
theorem uinv_take {n : Nat} {es : List Ed} (hg : ∀ e ∈ es, 0 ≤ e.f ∧ e.f < n ∧ 0 ≤ e.t ∧ e.t < n) : ∀ k, k ≤ es.length → UInv n es k (upG n (es.take k))
  | 0, _ => by simpa [upG] using uinv_begin n es
  | k + 1, hk => by
    obtain ⟨e, he⟩ : ∃ e, es[k]? = some e := ⟨_, List.getElem?_eq_getElem (by omega)⟩
    obtain ⟨a, b, c, d⟩ := hg e (List.mem_of_getElem? he)
    rw [upG_take n he]
    exact uinv_step (uinv_take hg k (by omega)) he a b c d
/-- Behind all edges roots are the least vertices that are joined. -/
theorem root_join {n : Nat} {es : List Ed} {up : List Nat} (h : UInv n es es.length up) {u v : Nat} (hj : Jn es u v) : rootG up u = rootG up v := by
  have key : ∀ x y, Eg es x y → rootG up x = rootG up y := by
    rintro x y ⟨e, he, hf, ht⟩
    have := h.same e (by rw [List.take_length]; exact he)
    rwa [hf, ht, Int.toNat_natCast, Int.toNat_natCast] at this
  induction hj with
  | refl => rfl
  | fwd _ e ih => exact ih.trans (key _ _ e)
  | bwd _ e ih => exact ih.trans (key _ _ e).symm
def weakG (n : Nat) (es : List Ed) : List Int := (List.range n).map fun v => ((rootG (upG n es) v : Nat) : Int)

/-- What rounds tell of the weak job. -/
theorem wt_weak {j : Jb} (hj : GoodJ j) (hk : j.kind = 2) {U : Nat → Prop} {v : Nat} {a : Int} (h : Wt j U v a) : v < j.n.toNat ∧ ∃ w : Nat, a = w ∧ w < j.n.toNat ∧ Jn j.es w v := by
  induction h with
  | @base v a hU hv hi =>
    unfold initA at hi
    rw [hk] at hi
    simp at hi
    exact ⟨hv, v, hi.symm, hv, .refl⟩
  | @step u v a c _ hc hU ih =>
    obtain ⟨_, w, rfl, h2, h3⟩ := ih
    have hr := arcs_range hj hc
    obtain ⟨e, he, rfl, hcase⟩ := mem_arcs.1 hc
    refine ⟨by omega, w, by rw [hk]; simp, h2, ?_⟩
    rcases hcase with ⟨_, e1, e2⟩ | ⟨_, e1, e2⟩
    · exact h3.fwd ⟨e, he, e1.symm, e2.symm⟩
    · exact h3.bwd ⟨e, he, e2.symm, e1.symm⟩
theorem jn_wt {j : Jb} (_hj : GoodJ j) (hk : j.kind = 2) {U : Nat → Prop} (hU : ∀ v, U v) {w v : Nat} (hw : w < j.n.toNat) (h : Jn j.es w v) : Wt j U v (w : Int) := by
  have z : ∀ c : Int, c = (if j.kind = 1 then c else 0) → c = 0 := fun c h => by rw [hk] at h; simpa using h
  have key : ∀ {x y : Nat}, Wt j U x (w : Int) → ((x : Int), (y : Int), (0 : Int)) ∈ arcs j 0 → Wt j U y (w : Int) := by
    intro x y hx hc
    have := Wt.step hx hc (hU y)
    simpa using this
  induction h with
  | refl => exact .base (hU w) hw (by unfold initA; rw [hk]; simp)
  | fwd _ e ih =>
    obtain ⟨x, hx, h1, h2⟩ := e
    refine key ih (mem_arcs.2 ⟨x, hx, by rw [hk]; simp, Or.inl ⟨by rw [hk]; rfl, h1.symm, h2.symm⟩⟩)
  | bwd _ e ih =>
    obtain ⟨x, hx, h1, h2⟩ := e
    refine key ih (mem_arcs.2 ⟨x, hx, by rw [hk]; simp, Or.inr ⟨by rw [hk]; rfl, h2.symm, h1.symm⟩⟩)
theorem weak_ends {j : Jb} (hj : GoodJ j) (hk : j.kind = 2) : ∃ K : Nat, 1 ≤ K ∧ (K : Int) ≤ j.n + 1 ∧ (itG j K (beginG j)).done = true ∧ (itG j K (beginG j)).step = (K : Int) ∧ (itG j K (beginG j)).vals.length = j.n.toNat ∧
    (itG j K (beginG j)).vals.map (fun x => x.a) = weakG j.n.toNat j.es := by
  have h0 := hj.n0
  obtain ⟨K, E⟩ := fwd_run hj (s := beginG j) rfl rfl rfl
  have hf := E.flags
  unfold quietG at hf
  rw [if_pos (by rw [hk]; decide)] at hf
  simp at hf
  obtain ⟨r, hI⟩ := E.inv
  have hq := fwd_quiet hj hI E.no
  have hU : ∀ v, UOf j (beginG j) v := fun v => Or.inl (by rw [hk]; decide)
  refine ⟨K, E.k0, by have := E.k1; omega, hf.2.2, by rw [E.step]; simp [beginG], E.vlen, ?_⟩
  have hgs : ∀ e ∈ j.es, 0 ≤ e.f ∧ e.f < (j.n.toNat : Int) ∧ 0 ≤ e.t ∧ e.t < (j.n.toNat : Int) := by
    intro e he
    have := (checkG_zero hj.g).2.2.2 e he
    simp only [goodE, insB, Bool.and_eq_true, decide_eq_true_eq] at this
    omega
  have UI := uinv_take hgs j.es.length (Nat.le_refl _)
  rw [List.take_length] at UI
  refine List.ext_getElem? fun v => ?_
  by_cases hv : v < j.n.toNat
  · unfold weakG
    rw [List.getElem?_map, List.getElem?_map, List.getElem?_range hv, List.getElem?_eq_getElem (by rw [E.vlen]; exact hv)]
    simp only [Option.map_some, Option.some.injEq]
    have hva : va (itG j K (beginG j)).vals v = (itG j K (beginG j)).vals[v]'(by rw [E.vlen]; exact hv) := by unfold va; rw [List.getElem?_eq_getElem (by rw [E.vlen]; exact hv)]; rfl
    rw [← hva]
    obtain ⟨q1, q2⟩ := hq v hv (hU v)
    have ne := (q2 v (jn_wt hj hk hU hv .refl)).1
    have hw : Wt j (UOf j (beginG j)) v (va (itG j K (beginG j)).vals v).a := by rcases q1 with h | h; exact absurd h ne; exact h
    obtain ⟨_, w, ew, hw1, hjw⟩ := wt_weak hj hk hw
    have r1 := root_join UI hjw
    have r2 := (rootG_le UI.wf w).1
    have hs := UI.sound v hv
    have rlt : rootG (upG j.n.toNat j.es) v < j.n.toNat := by have := (rootG_le UI.wf v).1; omega
    have r3 := (q2 _ (jn_wt hj hk hU rlt hs.symm)).2
    omega
  · rw [List.getElem?_eq_none (by rw [List.length_map, E.vlen]; omega), List.getElem?_eq_none (by unfold weakG; simp; omega)]
end Go.Proofs.Ytbholafggbdieaa
