/- paths.Dist in plain lists: the least first. No program in sight. -/
import Derived.Test.YtbholafggbdieaaHeapPP
namespace Go.Proofs.Ytbholafggbdieaa

/-- A way's length. -/
inductive Wd (es : List Ed) (s : Nat) : Nat → Int → Prop
  | base : Wd es s s 0
  | step {u v : Nat} {a : Int} {h : Hp} : Wd es s u a → h ∈ hopsV es u → h.t = (v : Int) → Wd es s v (a + h.g)
def fa (far : List Int) (v : Nat) : Int := far[v]?.getD (-1)
theorem fa_set {far : List Int} {k v : Nat} {x : Int} (hk : k < far.length) : fa (far.set k x) v = if v = k then x else fa far v := by
  unfold fa
  rw [List.getElem?_set]
  by_cases h : k = v
  · subst h; simp [hk]
  · rw [if_neg h, if_neg (fun e => h e.symm)]
structure DjI (es : List Ed) (n s : Nat) (far : List Int) (q : List Sp) (cur : Option (Nat × Nat)) : Prop where
  len : far.length = n
  snd : ∀ v, v < n → fa far v ≠ -1 → Wd es s v (fa far v)
  low : ∀ v, v < n → fa far v ≠ -1 → 0 ≤ fa far v
  ent : ∀ x ∈ q, ∃ v : Nat, x.v = (v : Int) ∧ v < n ∧ Wd es s v x.f ∧ 0 ≤ x.f
  src : (fa far s ≠ -1 ∧ fa far s ≤ 0) ∨ (⟨s, 0⟩ : Sp) ∈ q
  edge : ∀ u, u < n → fa far u ≠ -1 → ∀ (i : Nat) h, (hopsV es u)[i]? = some h → (∀ k, cur = some (u, k) → i < k) →
    (fa far h.t.toNat ≠ -1 ∧ fa far h.t.toNat ≤ fa far u + h.g) ∨ (⟨h.t, fa far u + h.g⟩ : Sp) ∈ q
  mono : ∀ v, v < n → fa far v ≠ -1 → ∀ x ∈ q, fa far v ≤ x.f
  curs : ∀ u k, cur = some (u, k) → u < n ∧ fa far u ≠ -1 ∧ ∀ v, v < n → fa far v ≠ -1 → fa far v ≤ fa far u
theorem fa_none (n v : Nat) : fa (List.replicate n (-1)) v = -1 := by
  unfold fa; rw [List.getElem?_replicate]; split <;> rfl
theorem dj_begin {es : List Ed} {n s : Nat} (hs : s < n) : DjI es n s (List.replicate n (-1)) [⟨s, 0⟩] none := by
  refine ⟨by simp, fun v _ h => absurd (fa_none n v) h, fun v _ h => absurd (fa_none n v) h, fun x hx => ?_, .inr (by simp), fun u _ h => absurd (fa_none n u) h, fun v _ h => absurd (fa_none n v) h, (fun u k h => by cases h)⟩
  have : x = ⟨s, 0⟩ := by simpa using hx
  subst this
  exact ⟨s, rfl, hs, .base, Int.le_refl _⟩
/-- The popped spot's vertex is done already. -/
theorem dj_skip {es : List Ed} {n s v : Nat} {far : List Int} {q q' : List Sp} {x : Sp} (h : DjI es n s far q none) (hp : q.Perm (x :: q')) (hx : x.v = (v : Int)) (hv : v < n) (hd : fa far v ≠ -1) : DjI es n s far q' none := by
  have sub : ∀ y ∈ q', y ∈ q := fun y hy => hp.mem_iff.2 (List.mem_cons_of_mem _ hy)
  have hxq : x ∈ q := hp.mem_iff.2 (List.mem_cons_self ..)
  have spl : ∀ y : Sp, y ∈ q → y = x ∨ y ∈ q' := fun y hy => List.mem_cons.1 (hp.mem_iff.1 hy)
  have hm := h.mono v hv hd x hxq
  refine ⟨h.len, h.snd, h.low, fun y hy => h.ent y (sub y hy), ?_, fun u hu hne i g hg hc => ?_, fun u hu hne y hy => h.mono u hu hne y (sub y hy), (fun u k e => by cases e)⟩
  · rcases h.src with hh | hh
    · exact .inl hh
    · rcases spl _ hh with e | hh
      · left
        have e1 : x.v = (s : Int) := by rw [← e]
        have e2 : x.f = 0 := by rw [← e]
        have : v = s := by omega
        subst this
        exact ⟨hd, by omega⟩
      · exact .inr hh
  · rcases h.edge u hu hne i g hg hc with hh | hh
    · exact .inl hh
    · rcases spl _ hh with e | hh
      · left
        have e1 : x.v = g.t := by rw [← e]
        have e2 : x.f = fa far u + g.g := by rw [← e]
        rw [show g.t.toNat = v by omega]
        exact ⟨hd, by omega⟩
      · exact .inr hh
/-- The popped spot's vertex is new. -/
theorem dj_new {es : List Ed} {n s v : Nat} {far : List Int} {q q' : List Sp} {x : Sp} (h : DjI es n s far q none) (hp : q.Perm (x :: q')) (hmin : ∀ y ∈ q', x.f ≤ y.f) (hx : x.v = (v : Int)) (hv : v < n) (hd : fa far v = -1) :
    DjI es n s (far.set v x.f) q' (some (v, 0)) := by
  have hxq : x ∈ q := hp.mem_iff.2 (List.mem_cons_self ..)
  have sub : ∀ y ∈ q', y ∈ q := fun y hy => hp.mem_iff.2 (List.mem_cons_of_mem _ hy)
  have spl : ∀ y : Sp, y ∈ q → y = x ∨ y ∈ q' := fun y hy => List.mem_cons.1 (hp.mem_iff.1 hy)
  have hf : ∀ u, fa (far.set v x.f) u = if u = v then x.f else fa far u := fun u => fa_set (by rw [h.len]; exact hv)
  obtain ⟨v', hx', hv', hw, h0⟩ := h.ent x hxq
  have ev : v' = v := by omega
  subst ev
  refine ⟨by rw [List.length_set]; exact h.len, fun u hu hne => ?_, fun u hu hne => ?_, fun y hy => h.ent y (sub y hy), ?_, fun u hu hne i g hg hc => ?_, fun u hu hne y hy => ?_, fun u k e => ?_⟩
  · rw [hf] at hne ⊢
    split
    · rename_i e; rw [e]; exact hw
    · rename_i e; rw [if_neg e] at hne; exact h.snd u hu hne
  · rw [hf] at hne ⊢
    split
    · exact h0
    · rename_i e; rw [if_neg e] at hne; exact h.low u hu hne
  · rw [hf]
    rcases h.src with ⟨h1, h2⟩ | hh
    · left
      have : s ≠ v' := fun e => h1 (by rw [e]; exact hd)
      rw [if_neg this]
      exact ⟨h1, h2⟩
    · rcases spl _ hh with e | hh
      · left
        have e1 : x.v = (s : Int) := by rw [← e]
        have e2 : x.f = 0 := by rw [← e]
        rw [if_pos (by omega)]
        omega
      · exact .inr hh
  · by_cases e : u = v'
    · subst e
      have := hc 0 rfl
      omega
    · rw [hf] at hne
      rw [if_neg e] at hne
      have old := h.edge u hu hne i g hg (fun k e => by cases e)
      rw [hf, hf, if_neg e]
      rcases old with ⟨h1, h2⟩ | hh
      · left
        have : g.t.toNat ≠ v' := fun e => h1 (by rw [e]; exact hd)
        rw [if_neg this]
        exact ⟨h1, h2⟩
      · rcases spl _ hh with e' | hh
        · left
          have e1 : x.v = g.t := by rw [← e']
          have e2 : x.f = fa far u + g.g := by rw [← e']
          rw [if_pos (by omega)]
          omega
        · exact .inr hh
  · rw [hf] at hne ⊢
    split
    · exact hmin y hy
    · rename_i e; rw [if_neg e] at hne; exact h.mono u hu hne y (sub y hy)
  · cases e
    refine ⟨hv, by rw [hf, if_pos rfl]; omega, fun u hu hne => ?_⟩
    rw [hf] at hne
    rw [hf, hf, if_pos rfl]
    split
    · exact Int.le_refl _
    · rename_i e; rw [if_neg e] at hne; exact h.mono u hu hne x hxq
/-- One hop more is pushed. -/
theorem dj_push {es : List Ed} {n s u i : Nat} {far : List Int} {q q' : List Sp} {g : Hp} (h : DjI es n s far q (some (u, i))) (hg : (hopsV es u)[i]? = some g) (ht : 0 ≤ g.t ∧ g.t < (n : Int)) (hw : 0 ≤ g.g) (hp : q'.Perm (⟨g.t, fa far u + g.g⟩ :: q)) :
    DjI es n s far q' (some (u, i + 1)) := by
  obtain ⟨c1, c2, c3⟩ := h.curs u i rfl
  have mem : ∀ y, y ∈ q' ↔ y = ⟨g.t, fa far u + g.g⟩ ∨ y ∈ q := fun y => by rw [hp.mem_iff, List.mem_cons]
  have l0 := h.low u c1 c2
  refine ⟨h.len, h.snd, h.low, fun y hy => ?_, ?_, fun x hx hne k g' hg' hc => ?_, fun x hx hne y hy => ?_, fun x k e => ?_⟩
  · rcases (mem y).1 hy with rfl | hy
    · exact ⟨g.t.toNat, by simp only; omega, by omega, .step (h.snd u c1 c2) (List.mem_of_getElem? hg) (by omega), by simp only; omega⟩
    · exact h.ent y hy
  · rcases h.src with hh | hh
    · exact .inl hh
    · exact .inr ((mem _).2 (.inr hh))
  · by_cases e : x = u ∧ k = i
    · obtain ⟨rfl, rfl⟩ := e
      rw [hg] at hg'; cases hg'
      exact .inr ((mem _).2 (.inl rfl))
    · have old := h.edge x hx hne k g' hg' (fun j ej => by
        cases ej
        have := hc (i + 1) rfl
        have hki : k ≠ i := fun e' => e ⟨rfl, e'⟩
        omega)
      rcases old with hh | hh
      · exact .inl hh
      · exact .inr ((mem _).2 (.inr hh))
  · rcases (mem y).1 hy with rfl | hy
    · have := c3 x hx hne; simp only; omega
    · exact h.mono x hx hne y hy
  · cases e
    exact ⟨c1, c2, c3⟩
theorem dj_done {es : List Ed} {n s u : Nat} {far : List Int} {q : List Sp} (h : DjI es n s far q (some (u, (hopsV es u).length))) : DjI es n s far q none :=
  ⟨h.len, h.snd, h.low, h.ent, h.src, fun x hx hne k g hg _ => h.edge x hx hne k g hg (fun j e => by cases e; exact (List.getElem?_eq_some_iff.1 hg).1), h.mono, fun u k e => by cases e⟩
/-- What is told when nothing is left. -/
structure DsE (es : List Ed) (n s : Nat) (far : List Int) : Prop where
  len : far.length = n
  yes : ∀ v, v < n → (fa far v = -1 ∧ ∀ a, ¬ Wd es s v a) ∨ (fa far v ≠ -1 ∧ Wd es s v (fa far v) ∧ ∀ a, Wd es s v a → fa far v ≤ a)
theorem dj_end {es : List Ed} {n s : Nat} {far : List Int} (h : DjI es n s far [] none) (hs : s < n) (hg : ∀ e ∈ es, 0 ≤ e.f ∧ e.f < (n : Int) ∧ 0 ≤ e.t ∧ e.t < (n : Int)) : DsE es n s far := by
  have key : ∀ v a, Wd es s v a → v < n ∧ fa far v ≠ -1 ∧ fa far v ≤ a := by
    intro v a hw
    induction hw with
    | base =>
      rcases h.src with ⟨h1, h2⟩ | hh
      · exact ⟨hs, h1, h2⟩
      · cases hh
    | @step u v a g _ hm ht ih =>
      obtain ⟨i1, i2, i3⟩ := ih
      obtain ⟨e, he, _, rfl⟩ := mem_hopsV.1 hm
      have hr := hg e he
      obtain ⟨i, hi, ei⟩ := List.mem_iff_getElem.1 hm
      rcases h.edge u i1 i2 i _ (by rw [List.getElem?_eq_getElem hi, ei]) (fun k e => by cases e) with ⟨h1, h2⟩ | hh
      · rw [ht, Int.toNat_natCast] at h1 h2
        have hv : v < n := by have : (hopOf e).t = e.t := rfl; omega
        exact ⟨hv, h1, by omega⟩
      · cases hh
  refine ⟨h.len, fun v hv => ?_⟩
  by_cases hd : fa far v = -1
  · exact .inl ⟨hd, fun a hw => (key v a hw).2.1 hd⟩
  · exact .inr ⟨hd, h.snd v hv hd, fun a hw => (key v a hw).2.2⟩

/-- So many may still be pushed. -/
def degL (es : List Ed) (far : List Int) (n : Nat) : Nat := ((List.range n).map fun v => if fa far v = -1 then (hopsV es v).length else 0).sum
theorem degL_set {es : List Ed} {far : List Int} {n v : Nat} {x : Int} (hl : far.length = n) (hv : v < n) (hd : fa far v = -1) (hx : x ≠ -1) : degL es (far.set v x) n + (hopsV es v).length = degL es far n := by
  unfold degL
  have key : ∀ l : List Nat, l.Nodup → ((l.map fun u => if fa (far.set v x) u = -1 then (hopsV es u).length else 0).sum + (if v ∈ l then (hopsV es v).length else 0) = (l.map fun u => if fa far u = -1 then (hopsV es u).length else 0).sum) := by
    intro l hn
    induction l with
    | nil => rfl
    | cons a l ih =>
      have hn' := List.nodup_cons.1 hn
      have := ih hn'.2
      by_cases e : a = v
      · subst e
        rw [if_pos (List.mem_cons_self ..)]
        rw [if_neg hn'.1] at this
        simp only [List.map_cons, List.sum_cons]
        rw [fa_set (by omega), if_pos rfl, if_neg hx, if_pos hd]
        omega
      · have e1 : (if v ∈ a :: l then (hopsV es v).length else 0) = if v ∈ l then (hopsV es v).length else 0 := by
          by_cases hm : v ∈ l
          · rw [if_pos hm, if_pos (List.mem_cons_of_mem _ hm)]
          · rw [if_neg hm, if_neg (fun h => by rcases List.mem_cons.1 h with h | h; exact e h.symm; exact hm h)]
        rw [e1]
        simp only [List.map_cons, List.sum_cons]
        rw [fa_set (by omega), if_neg e]
        omega
  have := key (List.range n) List.nodup_range
  rw [if_pos (List.mem_range.2 hv)] at this
  exact this
theorem degL_le (es : List Ed) (far : List Int) (n : Nat) : degL es far n ≤ n * es.length := by
  unfold degL
  have h1 : ∀ l : List Nat, (l.map fun v => if fa far v = -1 then (hopsV es v).length else 0).sum ≤ l.length * es.length := by
    intro l
    induction l with
    | nil => simp
    | cons a l ih =>
      simp only [List.map_cons, List.sum_cons, List.length_cons, Nat.succ_mul]
      have : (hopsV es a).length ≤ es.length := by unfold hopsV; rw [List.length_map]; exact List.length_filter_le _ _
      split <;> omega
  have := h1 (List.range n)
  simpa using this

/-- What rounds tell of the distances. -/
theorem wt_dist {j : Jb} (hk : j.kind = 1) {s : Nat} (hs : j.src = (s : Int)) {U : Nat → Prop} {v : Nat} {a : Int} (h : Wt j U v a) : Wd j.es s v a := by
  induction h with
  | @base v a hU hv hi =>
    unfold initA at hi
    rw [if_pos hk] at hi
    split at hi
    · rename_i e
      have : v = s := by omega
      subst this
      cases hi
      exact .base
    · cases hi
  | @step u v a c _ hc hU ih =>
    obtain ⟨e, he, rfl, hcase⟩ := mem_arcs.1 hc
    rw [if_pos hk]
    rcases hcase with ⟨_, e1, e2⟩ | ⟨h1, _, _⟩
    · exact .step ih (mem_hopsV.2 ⟨e, he, e1.symm, rfl⟩) e2.symm
    · rw [hk] at h1; cases h1
theorem dist_wt {j : Jb} (hk : j.kind = 1) {s : Nat} (hs : j.src = (s : Int)) (hj : GoodJ j) {U : Nat → Prop} (hU : ∀ v, U v) {v : Nat} {a : Int} (h : Wd j.es s v a) : Wt j U v a := by
  induction h with
  | base =>
    have := hj.src hk
    exact .base (hU s) (by omega) (by unfold initA; rw [if_pos hk, if_pos hs.symm])
  | @step u v a g _ hm ht ih =>
    obtain ⟨e, he, hf, rfl⟩ := mem_hopsV.1 hm
    exact .step ih (mem_arcs.2 ⟨e, he, by rw [if_pos hk]; rfl, .inl ⟨by rw [hk]; rfl, hf.symm, ht.symm⟩⟩) (hU v)
theorem dist_ends {j : Jb} (hj : GoodJ j) (hk : j.kind = 1) {s : Nat} (hs : j.src = (s : Int)) : ∃ K : Nat, 1 ≤ K ∧ (K : Int) ≤ j.n + 1 ∧ (itG j K (beginG j)).done = true ∧ (itG j K (beginG j)).step = (K : Int) ∧ (itG j K (beginG j)).vals.length = j.n.toNat ∧
    ∀ far, DsE j.es j.n.toNat s far → (itG j K (beginG j)).vals.map (fun x => x.a) = far := by
  have h0 := hj.n0
  obtain ⟨K, E⟩ := fwd_run hj (s := beginG j) rfl rfl rfl
  have hf := E.flags
  unfold quietG at hf
  rw [if_pos (by rw [hk]; decide)] at hf
  simp at hf
  obtain ⟨r, hI⟩ := E.inv
  have hq := fwd_quiet hj hI E.no
  have hU : ∀ v, UOf j (beginG j) v := fun v => Or.inl (by rw [hk]; decide)
  refine ⟨K, E.k0, by have := E.k1; omega, hf.2.2, by rw [E.step]; simp [beginG], E.vlen, fun far hF => ?_⟩
  refine List.ext_getElem? fun v => ?_
  by_cases hv : v < j.n.toNat
  · rw [List.getElem?_map, List.getElem?_eq_getElem (by rw [E.vlen]; exact hv), List.getElem?_eq_getElem (by rw [hF.len]; exact hv)]
    simp only [Option.map_some, Option.some.injEq]
    have hva : va (itG j K (beginG j)).vals v = (itG j K (beginG j)).vals[v]'(by rw [E.vlen]; exact hv) := by unfold va; rw [List.getElem?_eq_getElem (by rw [E.vlen]; exact hv)]; rfl
    have hfa : fa far v = far[v]'(by rw [hF.len]; exact hv) := by unfold fa; rw [List.getElem?_eq_getElem (by rw [hF.len]; exact hv)]; rfl
    rw [← hva, ← hfa]
    obtain ⟨q1, q2⟩ := hq v hv (hU v)
    rcases hF.yes v hv with ⟨f1, f2⟩ | ⟨f1, f2, f3⟩
    · rcases q1 with h | h
      · rw [h, f1]
      · exact absurd (wt_dist hk hs h) (f2 _)
    · have g1 := q2 _ (dist_wt hk hs hj hU f2)
      rcases q1 with h | h
      · exact absurd h g1.1
      · have := f3 _ (wt_dist hk hs h)
        omega
  · rw [List.getElem?_eq_none (by rw [List.length_map, E.vlen]; omega), List.getElem?_eq_none (by rw [hF.len]; omega)]
end Go.Proofs.Ytbholafggbdieaa
