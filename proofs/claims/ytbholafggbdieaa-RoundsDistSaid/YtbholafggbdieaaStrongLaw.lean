/- paths.Strong in plain lists: what a search finds; the label of each vertex is the least that it reaches and that reaches it. No program in sight. -/
import Derived.Test.YtbholafggbdieaaRoundEnd
namespace Go.Proofs.Ytbholafggbdieaa

/-- A hop: where it leads, and its weight. -/
structure Hp where
  t : Int
  g : Int
def encH (h : Hp) : List Value := [.int .i64 h.t, .int .i64 h.g]
def hopOf (e : Ed) : Hp := ⟨e.t, e.g⟩
/-- The hops of a vertex, in the order of the edges. -/
def hopsV (es : List Ed) (u : Nat) : List Hp := (es.filter (fun e => decide (e.f = (u : Int)))).map hopOf
def hopsG (n : Nat) (es : List Ed) : List (List Hp) := (List.range n).map (hopsV es)
theorem hopsV_step (es : List Ed) {k : Nat} {e : Ed} (he : es[k]? = some e) (u : Nat) : hopsV (es.take (k + 1)) u = hopsV (es.take k) u ++ (if e.f = (u : Int) then [hopOf e] else []) := by
  unfold hopsV
  rw [List.take_add_one, he, List.filter_append, List.map_append]
  congr 1
  simp only [Option.toList]
  by_cases h : e.f = (u : Int) <;> simp [h]
theorem hopsG_at {n : Nat} (es : List Ed) {u : Nat} (h : u < n) : (hopsG n es)[u]? = some (hopsV es u) := by
  unfold hopsG; rw [List.getElem?_map, List.getElem?_range h]; rfl
theorem mem_hopsV {es : List Ed} {u : Nat} {h : Hp} : h ∈ hopsV es u ↔ ∃ e ∈ es, e.f = (u : Int) ∧ h = hopOf e := by
  unfold hopsV
  simp only [List.mem_map, List.mem_filter, decide_eq_true_eq]
  constructor
  · rintro ⟨e, ⟨h1, h2⟩, h3⟩; exact ⟨e, h1, h2, h3.symm⟩
  · rintro ⟨e, h1, h2, h3⟩; exact ⟨e, ⟨h1, h2⟩, h3.symm⟩
theorem eg_hop {es : List Ed} {u v : Nat} : Eg es u v ↔ ∃ h ∈ hopsV es u, h.t = (v : Int) := by
  constructor
  · rintro ⟨e, he, hf, ht⟩; exact ⟨hopOf e, mem_hopsV.2 ⟨e, he, hf, rfl⟩, ht⟩
  · rintro ⟨h, hm, ht⟩
    obtain ⟨e, he, hf, rfl⟩ := mem_hopsV.1 hm
    exact ⟨e, he, hf, ht⟩

def sn (seen : List Bool) (u : Nat) : Bool := seen[u]?.getD false
theorem sn_set {seen : List Bool} {k u : Nat} (hk : k < seen.length) : sn (seen.set k true) u = if u = k then true else sn seen u := by
  unfold sn
  rw [List.getElem?_set]
  by_cases h : k = u
  · subst h; simp [hk]
  · rw [if_neg h, if_neg (fun e => h e.symm)]
/-- While a search goes on: u is in work, its first i hops have been looked at (none is: u is none). -/
structure SrI (es : List Ed) (n v : Nat) (seen : List Bool) (todo : List Nat) (cur : Option (Nat × Nat)) : Prop where
  len : seen.length = n
  start : sn seen v = true
  reach : ∀ u, u < n → sn seen u = true → Rc es v u
  lst : ∀ u ∈ todo, u < n ∧ sn seen u = true
  curs : ∀ u i, cur = some (u, i) → u < n ∧ sn seen u = true ∧ ∀ (k : Nat) h, k < i → (hopsV es u)[k]? = some h → sn seen h.t.toNat = true
  closed : ∀ u, u < n → sn seen u = true → u ∉ todo → (∀ i, cur ≠ some (u, i)) → ∀ h ∈ hopsV es u, sn seen h.t.toNat = true
def unseen (seen : List Bool) : Nat := seen.countP (fun b => !b)
theorem unseen_set {seen : List Bool} {k : Nat} (hk : k < seen.length) (h : sn seen k = false) : unseen (seen.set k true) + 1 = unseen seen := by
  unfold unseen
  have h' : seen[k] = false := by unfold sn at h; rw [List.getElem?_eq_getElem hk] at h; exact h
  have := List.countP_set (p := fun b => !b) (l := seen) (i := k) (a := true) hk
  rw [this, h']
  have h2 : 0 < seen.countP (fun b => !b) := List.countP_pos_iff.2 ⟨false, by rw [← h']; exact List.getElem_mem hk, rfl⟩
  simp; omega
theorem sri_begin {es : List Ed} {n v : Nat} (hv : v < n) : SrI es n v ((List.replicate n false).set v true) [v] none := by
  have hs : ∀ u, sn ((List.replicate n false).set v true) u = true → u = v := by
    intro u h
    rw [sn_set (by simpa using hv)] at h
    split at h
    · assumption
    · unfold sn at h
      rw [List.getElem?_replicate] at h
      split at h <;> simp at h
  refine ⟨by simp, by rw [sn_set (by simpa using hv)]; simp, fun u _ h => by rw [hs u h]; exact .refl, fun u h => ?_, (fun u i h => by cases h), fun u _ h hn => absurd (by rw [hs u h]; simp) hn⟩
  have : u = v := by simpa using h
  subst this
  exact ⟨hv, by rw [sn_set (by simpa using hv)]; simp⟩
/-- One is taken off the list. -/
theorem sri_pop {es : List Ed} {n v u : Nat} {seen : List Bool} {todo : List Nat} (h : SrI es n v seen (todo ++ [u]) none) : SrI es n v seen todo (some (u, 0)) := by
  obtain ⟨h1, h2⟩ := h.lst u (by simp)
  refine ⟨h.len, h.start, h.reach, fun x hx => h.lst x (by simp [hx]), fun x i e => ?_, fun x hx hs ht hc => ?_⟩
  · cases e; exact ⟨h1, h2, fun k _ hk => absurd hk (by omega)⟩
  · exact h.closed x hx hs (by simp; exact ⟨ht, fun e => hc 0 (by rw [e])⟩) (fun i e => by cases e)
/-- A hop leads to one that was seen. -/
theorem sri_old {es : List Ed} {n v u i : Nat} {seen : List Bool} {todo : List Nat} {hp : Hp} (h : SrI es n v seen todo (some (u, i))) (hh : (hopsV es u)[i]? = some hp) (hs : sn seen hp.t.toNat = true) : SrI es n v seen todo (some (u, i + 1)) := by
  obtain ⟨h1, h2, h3⟩ := h.curs u i rfl
  refine ⟨h.len, h.start, h.reach, h.lst, fun x k e => ?_, fun x hx hs' ht hc => h.closed x hx hs' ht (fun k e => ?_)⟩
  · cases e
    refine ⟨h1, h2, fun k g hk hg => ?_⟩
    by_cases e : k = i
    · subst e; rw [hh] at hg; cases hg; exact hs
    · exact h3 k g (by omega) hg
  · cases e; exact hc (i + 1) rfl
/-- A hop leads to a new one. -/
theorem sri_new {es : List Ed} {n v u i x : Nat} {seen : List Bool} {todo : List Nat} {hp : Hp} (h : SrI es n v seen todo (some (u, i))) (hh : (hopsV es u)[i]? = some hp) (hx : hp.t = (x : Int)) (hxn : x < n) : SrI es n v (seen.set x true) (todo ++ [x]) (some (u, i + 1)) := by
  obtain ⟨h1, h2, h3⟩ := h.curs u i rfl
  have hat : ∀ y, sn (seen.set x true) y = if y = x then true else sn seen y := fun y => sn_set (by rw [h.len]; exact hxn)
  have mono : ∀ y, sn seen y = true → sn (seen.set x true) y = true := fun y hy => by rw [hat]; split; rfl; exact hy
  refine ⟨by rw [List.length_set]; exact h.len, mono _ h.start, fun y hy hs => ?_, fun y hy => ?_, fun y k e => ?_, fun y hy hs ht hc g hg => ?_⟩
  · rw [hat] at hs
    split at hs
    · rename_i e
      subst e
      exact (h.reach u h1 h2).step (eg_hop.2 ⟨hp, List.mem_of_getElem? hh, hx⟩)
    · exact h.reach y hy hs
  · rcases List.mem_append.1 hy with hy | hy
    · exact ⟨(h.lst y hy).1, mono _ (h.lst y hy).2⟩
    · have : y = x := by simpa using hy
      subst this
      exact ⟨hxn, by rw [hat]; simp⟩
  · cases e
    refine ⟨h1, mono _ h2, fun k g hk hg => ?_⟩
    by_cases e : k = i
    · subst e
      rw [hh] at hg; cases hg
      rw [hx, Int.toNat_natCast, hat]; simp
    · exact mono _ (h3 k g (by omega) hg)
  · have hne : y ≠ x := fun e => ht (by simp [e])
    rw [hat, if_neg hne] at hs
    exact mono _ (h.closed y hy hs (fun e => ht (by simp [e])) (fun k e => by cases e; exact hc (i + 1) rfl) g hg)
/-- All hops of one have been looked at. -/
theorem sri_done {es : List Ed} {n v u : Nat} {seen : List Bool} {todo : List Nat} (h : SrI es n v seen todo (some (u, (hopsV es u).length))) : SrI es n v seen todo none := by
  obtain ⟨h1, h2, h3⟩ := h.curs u _ rfl
  refine ⟨h.len, h.start, h.reach, h.lst, (fun x i e => by cases e), fun x hx hs ht _ g hg => ?_⟩
  by_cases e : x = u
  · subst e
    obtain ⟨k, hk, e⟩ := List.mem_iff_getElem.1 hg
    exact h3 k g hk (by rw [List.getElem?_eq_getElem hk, e])
  · exact h.closed x hx hs ht (fun k e' => by cases e'; exact e rfl) g hg
theorem sri_end {es : List Ed} {n v : Nat} {seen : List Bool} (h : SrI es n v seen [] none) (hg : ∀ e ∈ es, 0 ≤ e.f ∧ e.f < n ∧ 0 ≤ e.t ∧ e.t < n) (hv : v < n) : ∀ u, u < n → (sn seen u = true ↔ Rc es v u) := by
  intro u hu
  refine ⟨h.reach u hu, fun hr => ?_⟩
  have key : ∀ {x : Nat}, Rc es v x → x < n ∧ sn seen x = true := by
    intro x hr
    induction hr with
    | refl => exact ⟨hv, h.start⟩
    | @step y z _ he ih =>
      obtain ⟨hp, hm, ht⟩ := eg_hop.1 he
      obtain ⟨e, hee, _, e2⟩ := he
      have := hg e hee
      refine ⟨by omega, ?_⟩
      have := h.closed y ih.1 ih.2 (by simp) (fun i e => by cases e) hp hm
      rwa [ht, Int.toNat_natCast] at this
  exact (key hr).2

/-- Labels behind the first k vertices. -/
structure LbI (es : List Ed) (n k : Nat) (lab : List Int) : Prop where
  len : lab.length = n
  yes : ∀ u, u < n → (lab[u]? = some (-1) ∧ ∀ x, x < k → ¬ (Rc es x u ∧ Rc es u x)) ∨ ∃ r : Nat, lab[u]? = some (r : Int) ∧ r < k ∧ Rc es r u ∧ Rc es u r ∧ ∀ x, x < k → Rc es x u → Rc es u x → r ≤ x
theorem lbi_begin (es : List Ed) (n : Nat) : LbI es n 0 (List.replicate n (-1)) :=
  ⟨by simp, fun u hu => Or.inl ⟨by rw [List.getElem?_replicate, if_pos hu], fun x hx => absurd hx (by omega)⟩⟩
/-- A vertex that has a label. -/
theorem lbi_skip {es : List Ed} {n k : Nat} {lab : List Int} (h : LbI es n k lab) (hk : k < n) (hl : lab[k]? ≠ some (-1)) : LbI es n (k + 1) lab := by
  obtain ⟨r, _, hr1, hr2, hr3, _⟩ : ∃ r : Nat, lab[k]? = some (r : Int) ∧ r < k ∧ Rc es r k ∧ Rc es k r ∧ ∀ x, x < k → Rc es x k → Rc es k x → r ≤ x := by
    rcases h.yes k hk with ⟨a, _⟩ | h
    · exact absurd a hl
    · exact h
  refine ⟨h.len, fun u hu => ?_⟩
  rcases h.yes u hu with ⟨a, b⟩ | ⟨r', a, b, c, d, e⟩
  · refine Or.inl ⟨a, fun x hx ⟨y1, y2⟩ => ?_⟩
    by_cases e : x = k
    · subst e; exact b r hr1 ⟨hr2.trans y1, y2.trans hr3⟩
    · exact b x (by omega) ⟨y1, y2⟩
  · refine Or.inr ⟨r', a, by omega, c, d, fun x hx y1 y2 => ?_⟩
    by_cases e' : x = k
    · subst e'; omega
    · exact e x (by omega) y1 y2
/-- Labels while vertex k gives its own: the first q have been looked at. -/
def labS (lab : List Int) (A B : List Bool) (k q : Nat) : List Int := (List.range lab.length).map fun u => if u < q ∧ sn A u = true ∧ sn B u = true then (k : Int) else lab[u]?.getD 0
theorem labS_len (lab : List Int) (A B : List Bool) (k q : Nat) : (labS lab A B k q).length = lab.length := by simp [labS]
theorem labS_at {lab : List Int} {A B : List Bool} {k q u : Nat} (hu : u < lab.length) : (labS lab A B k q)[u]? = some (if u < q ∧ sn A u = true ∧ sn B u = true then (k : Int) else lab[u]?.getD 0) := by
  unfold labS; rw [List.getElem?_map, List.getElem?_range hu]; rfl
theorem labS_zero (lab : List Int) (A B : List Bool) (k : Nat) : labS lab A B k 0 = lab := by
  refine List.ext_getElem? fun u => ?_
  by_cases hu : u < lab.length
  · rw [labS_at hu, if_neg (by omega), List.getElem?_eq_getElem hu]; rfl
  · rw [List.getElem?_eq_none (by rw [labS_len]; omega), List.getElem?_eq_none (by omega)]
theorem labS_no {lab : List Int} {A B : List Bool} {k q : Nat} (h : ¬ (sn A q = true ∧ sn B q = true)) : labS lab A B k (q + 1) = labS lab A B k q := by
  unfold labS
  refine List.map_congr_left fun u _ => ?_
  by_cases hc : u < q ∧ sn A u = true ∧ sn B u = true
  · rw [if_pos hc, if_pos ⟨by omega, hc.2⟩]
  · rw [if_neg hc, if_neg]
    rintro ⟨a, b⟩
    by_cases e : u = q
    · subst e; exact h b
    · exact hc ⟨by omega, b⟩
theorem labS_yes {lab : List Int} {A B : List Bool} {k q : Nat} (hq : q < lab.length) (h : sn A q = true ∧ sn B q = true) : (labS lab A B k q).set q (k : Int) = labS lab A B k (q + 1) := by
  refine List.ext_getElem? fun u => ?_
  by_cases hu : u < lab.length
  · rw [List.getElem?_set, labS_at hu, labS_at hu, labS_len]
    by_cases e : q = u
    · subst e; rw [if_pos rfl, if_pos hq, if_pos ⟨by omega, h⟩]
    · rw [if_neg e]
      by_cases hc : u < q ∧ sn A u = true ∧ sn B u = true
      · rw [if_pos hc, if_pos ⟨by omega, hc.2⟩]
      · rw [if_neg hc, if_neg (fun ⟨a, b⟩ => hc ⟨by omega, b⟩)]
  · rw [List.getElem?_eq_none (by rw [List.length_set, labS_len]; omega), List.getElem?_eq_none (by rw [labS_len]; omega)]
theorem lbi_give {es : List Ed} {n k : Nat} {lab : List Int} {A B : List Bool} (h : LbI es n k lab) (hk : k < n) (hl : lab[k]? = some (-1)) (hA : ∀ u, u < n → (sn A u = true ↔ Rc es k u)) (hB : ∀ u, u < n → (sn B u = true ↔ Rc es u k)) : LbI es n (k + 1) (labS lab A B k n) := by
  have hno : ∀ x, x < k → ¬ (Rc es x k ∧ Rc es k x) := by
    rcases h.yes k hk with ⟨_, b⟩ | ⟨r, a, _⟩
    · exact b
    · rw [hl] at a; injection a with a; omega
  refine ⟨by rw [labS_len]; exact h.len, fun u hu => ?_⟩
  rw [labS_at (by rw [h.len]; exact hu)]
  by_cases hc : sn A u = true ∧ sn B u = true
  · rw [if_pos ⟨hu, hc⟩]
    have a := (hA u hu).1 hc.1
    have b := (hB u hu).1 hc.2
    refine Or.inr ⟨k, rfl, by omega, a, b, fun x hx y1 y2 => ?_⟩
    apply Classical.byContradiction
    intro hlt
    exact hno x (by omega) ⟨y1.trans b, a.trans y2⟩
  · rw [if_neg (fun ⟨_, b⟩ => hc b)]
    have hn : ¬ (Rc es k u ∧ Rc es u k) := fun ⟨a, b⟩ => hc ⟨(hA u hu).2 a, (hB u hu).2 b⟩
    rcases h.yes u hu with ⟨a, b⟩ | ⟨r', a, b, c, d, e⟩
    · refine Or.inl ⟨by rw [a]; rfl, fun x hx y => ?_⟩
      by_cases e : x = k
      · subst e; exact hn y
      · exact b x (by omega) y
    · refine Or.inr ⟨r', by rw [a]; rfl, by omega, c, d, fun x hx y1 y2 => ?_⟩
      by_cases e' : x = k
      · subst e'; exact absurd ⟨y1, y2⟩ hn
      · exact e x (by omega) y1 y2
/-- Labels are what rounds tell. -/
theorem lbi_end {es : List Ed} {n : Nat} {lab : List Int} (h : LbI es n n lab) {vals : List Vl} (hl : vals.length = n) (hv : ∀ v, v < n → ∃ r : Nat, (va vals v).l = r ∧ IsLeast es n v r) : vals.map (fun x => x.l) = lab := by
  refine List.ext_getElem? fun u => ?_
  by_cases hu : u < n
  · rw [List.getElem?_map, List.getElem?_eq_getElem (by omega)]
    have hva : va vals u = vals[u]'(by omega) := by unfold va; rw [List.getElem?_eq_getElem (by omega)]; rfl
    rw [← hva]
    obtain ⟨r, hr, hL⟩ := hv u hu
    rcases h.yes u hu with ⟨_, b⟩ | ⟨r', a, b, c, d, e⟩
    · exact absurd ⟨hL.to, hL.fro⟩ (b r hL.lt)
    · rw [a]
      have h1 := hL.least r' b c d
      have h2 := e r hL.lt hL.to hL.fro
      simp only [Option.map_some, Option.some.injEq]
      omega
  · rw [List.getElem?_eq_none (by rw [List.length_map]; omega), List.getElem?_eq_none (by rw [h.len]; omega)]

/-- The edges the other way. -/
def backE (e : Ed) : Ed := ⟨e.t, e.f, e.g⟩
theorem rc_back {es bs : List Ed} (h : ∀ e, e ∈ bs ↔ ∃ x ∈ es, e = backE x) {u v : Nat} : Rc bs u v ↔ Rc es v u := by
  have one : ∀ {x y : Nat}, Eg bs x y ↔ Eg es y x := by
    intro x y
    constructor
    · rintro ⟨e, he, h1, h2⟩
      obtain ⟨z, hz, rfl⟩ := (h e).1 he
      exact ⟨z, hz, h2, h1⟩
    · rintro ⟨z, hz, h1, h2⟩
      exact ⟨backE z, (h _).2 ⟨z, hz, rfl⟩, h2, h1⟩
  constructor
  · intro hr
    induction hr with
    | refl => exact .refl
    | step _ e ih => exact (Rc.step .refl (one.1 e)).trans ih
  · intro hr
    induction hr with
    | refl => exact .refl
    | step _ e ih => exact (Rc.step .refl (one.2 e)).trans ih
theorem strong_ends {j : Jb} (hj : GoodJ j) (hk : j.kind = 3) : ∃ K : Nat, 1 ≤ K ∧ (K : Int) ≤ j.n * (2 * j.n + 4) ∧ (itG j K (beginG j)).done = true ∧ (itG j K (beginG j)).step = (K : Int) ∧ (itG j K (beginG j)).vals.length = j.n.toNat ∧
    ∀ v, v < j.n.toNat → ∃ r : Nat, (va (itG j K (beginG j)).vals v).l = r ∧ IsLeast j.es j.n.toNat v r := by
  have h0 := hj.n0
  obtain ⟨K, k1, k2, E⟩ := strong_run hj hk _ rfl (s := beginG j) rfl rfl rfl (sinv_begin j) (by simp [beginG]) ((openB_iff (n := j.n.toNat) (by simp [beginG])).2 ⟨0, by omega, by rw [va_begin (by omega)]⟩)
  refine ⟨K, k1, ?_, E.done, by rw [E.step]; simp [beginG], E.vlen, E.inv⟩
  have h1 : cntU (beginG j).vals j.n.toNat * (2 * j.n.toNat + 2) ≤ j.n.toNat * (2 * j.n.toNat + 4) := Nat.mul_le_mul (cnt_begin j) (by omega)
  have h2 : K ≤ j.n.toNat * (2 * j.n.toNat + 4) := Nat.le_trans k2 h1
  have h3 : j.n = (j.n.toNat : Int) := by omega
  rw [h3]
  exact_mod_cast h2
end Go.Proofs.Ytbholafggbdieaa
