/- Rounds in plain lists: a job ends; the order of edges does not matter. No program in sight. -/
import Derived.Test.YtbholafggbdieaaRoundGood
namespace Go.Proofs.Ytbholafggbdieaa
theorem va_begin {j : Jb} {v : Nat} (h : v < j.n.toNat) : va (beginG j).vals v = ⟨-1, -1⟩ := by
  unfold va beginG; simp only; rw [List.getElem?_replicate, if_pos h]; rfl
theorem sinv_begin (j : Jb) : SInv j (beginG j).vals :=
  ⟨fun v hv hl => absurd (by rw [va_begin hv]) hl, fun u v hu _ _ _ hl => absurd (by rw [va_begin hu]) hl⟩
theorem cnt_begin (j : Jb) : cntU (beginG j).vals j.n.toNat ≤ j.n.toNat := by
  unfold cntU
  have := List.countP_le_length (p := fun v => decide ((va (beginG j).vals v).l = -1)) (l := List.range j.n.toNat)
  simpa using this
/-- A job ends, soon. -/
theorem job_ends {j : Jb} (hj : GoodJ j) (hn : j.n ≤ 8) : ∃ K : Nat, 1 ≤ K ∧ K ≤ 144 ∧ (itG j K (beginG j)).done = true ∧ (itG j K (beginG j)).step = (K : Int) := by
  have h0 := hj.n0
  by_cases hk : j.kind = 3
  · obtain ⟨K, k1, k2, E⟩ := strong_run hj hk _ rfl (s := beginG j) rfl rfl rfl (sinv_begin j) (by simp [beginG]) ((openB_iff (n := j.n.toNat) (by simp [beginG])).2 ⟨0, by omega, by rw [va_begin (by omega)]⟩)
    have h1 : cntU (beginG j).vals j.n.toNat * (2 * j.n.toNat + 2) ≤ 8 * 18 := Nat.mul_le_mul (Nat.le_trans (cnt_begin j) (by omega)) (by omega)
    exact ⟨K, k1, by omega, E.done, by rw [E.step]; simp [beginG]⟩
  · obtain ⟨K, E⟩ := fwd_run hj (s := beginG j) rfl rfl rfl
    have hf := E.flags
    unfold quietG at hf
    rw [if_pos hk] at hf
    simp at hf
    exact ⟨K, E.k0, by have := E.k1; omega, hf.2.2, by rw [E.step]; simp [beginG]⟩

/-- Two jobs with the same edges, in whatever order. -/
structure SimJ (j k : Jb) : Prop where
  n : k.n = j.n
  kind : k.kind = j.kind
  src : k.src = j.src
  es : ∀ e, e ∈ k.es ↔ e ∈ j.es
structure SimS (s u : Stt) : Prop where
  step : u.step = s.step
  phase : u.phase = s.phase
  fresh : u.fresh = s.fresh
  done : u.done = s.done
  vals : u.vals = s.vals
  mail : ∀ v m, m ∈ ml u.mail v ↔ m ∈ ml s.mail v
theorem lowG_same {old : Vl} {l1 l2 : List Int} (h : ∀ m, m ∈ l1 ↔ m ∈ l2) (h0 : ∀ m ∈ l1, 0 ≤ m) : lowG old l1 = lowG old l2 := by
  obtain ⟨a1, a2, a3⟩ := lowG_spec old l1 h0
  obtain ⟨b1, b2, b3⟩ := lowG_spec old l2 (fun m hm => h0 m ((h m).2 hm))
  cases h1 : (lowG old l1).2 <;> cases h2 : (lowG old l2).2
  · exact Prod.ext ((a2 h1).1.trans (b2 h2).1.symm) (h1.trans h2.symm)
  · obtain ⟨c1, c2, _⟩ := b3 h2
    have := (a2 h1).2 _ ((h _).2 c1)
    omega
  · obtain ⟨c1, c2, _⟩ := a3 h1
    have := (b2 h2).2 _ ((h _).1 c1)
    omega
  · obtain ⟨c1, _, c3⟩ := a3 h1
    obtain ⟨d1, _, d3⟩ := b3 h2
    have e1 := c3 _ ((h _).2 d1)
    have e2 := d3 _ ((h _).1 c1)
    have ea : (lowG old l1).1.a = (lowG old l2).1.a := by omega
    have el : (lowG old l1).1.l = (lowG old l2).1.l := by rw [a1, b1]
    have e3 : (lowG old l1).1 = (lowG old l2).1 := by
      cases hx : (lowG old l1).1; cases hy : (lowG old l2).1
      rw [hx, hy] at ea el; simp only at ea el; rw [ea, el]
    exact Prod.ext e3 (h1.trans h2.symm)
theorem wakeG_same {kind v src : Int} {old : Vl} {phase : Int} {fresh : Bool} {l1 l2 : List Int} (h : ∀ m, m ∈ l1 ↔ m ∈ l2) (h0 : ∀ m ∈ l1, 0 ≤ m) : wakeG kind v src old phase fresh l1 = wakeG kind v src old phase fresh l2 := by
  have hl := lowG_same (old := old) h h0
  have ha : l1.any (fun m => decide (m = old.a)) = l2.any (fun m => decide (m = old.a)) := by
    rw [Bool.eq_iff_iff, List.any_eq_true, List.any_eq_true]
    constructor
    · rintro ⟨m, h1, h2⟩; exact ⟨m, (h m).1 h1, h2⟩
    · rintro ⟨m, h1, h2⟩; exact ⟨m, (h m).2 h1, h2⟩
  unfold wakeG
  rw [hl, ha]
theorem nil_iff {l1 l2 : List Int} (h : ∀ m, m ∈ l1 ↔ m ∈ l2) : l1 = [] ↔ l2 = [] := by
  constructor
  · rintro rfl
    cases l2 with
    | nil => rfl
    | cons a l => exact absurd ((h a).2 (List.mem_cons_self ..)) (by simp)
  · rintro rfl
    cases l1 with
    | nil => rfl
    | cons a l => exact absurd ((h a).1 (List.mem_cons_self ..)) (by simp)
theorem woke_same {j k : Jb} (hj : SimJ j k) {s u : Stt} (h : SimS s u) (h0 : ∀ v m, m ∈ ml s.mail v → 0 ≤ m) (v : Nat) : wokeG k u v = wokeG j s v := by
  rw [woke_eq, woke_eq, h.fresh, h.vals, hj.kind, hj.src, h.phase]
  have hn := nil_iff (h.mail v)
  by_cases hc : s.fresh = false ∧ ml s.mail v = []
  · rw [if_pos hc, if_pos ⟨hc.1, hn.2 hc.2⟩]
  · rw [if_neg hc, if_neg (fun h => hc ⟨h.1, hn.1 h.2⟩)]
    exact (wakeG_same (fun m => (h.mail v m).symm) (h0 v)).symm
theorem arcs_same {j k : Jb} (hj : SimJ j k) {phase : Int} {x : Int × Int × Int} : x ∈ arcs k phase ↔ x ∈ arcs j phase := by
  obtain ⟨a, b, c⟩ := x
  rw [mem_arcs, mem_arcs, hj.kind]
  constructor
  · rintro ⟨e, he, h⟩; exact ⟨e, (hj.es e).1 he, h⟩
  · rintro ⟨e, he, h⟩; exact ⟨e, (hj.es e).2 he, h⟩
theorem ml_out (j : Jb) (s : Stt) {v : Nat} (h : ¬ v < j.n.toNat) : ml (mailG j s) v = [] := by
  unfold ml; rw [mailG_at, if_neg h]; rfl
theorem sim_next {j k : Jb} (hj : SimJ j k) {s u : Stt} (h : SimS s u) (h0 : ∀ v m, m ∈ ml s.mail v → 0 ≤ m) : SimS (nextG j s) (nextG k u) := by
  have hm : ∀ v m, m ∈ ml (mailG k u) v ↔ m ∈ ml (mailG j s) v := by
    intro v m
    by_cases hv : v < j.n.toNat
    · rw [mem_mlG hv, mem_mlG (by rw [hj.n]; exact hv), hj.n, h.phase]
      constructor
      · rintro ⟨x, hx, hs, c, hc, e⟩
        rw [woke_same hj h h0] at hs e
        exact ⟨x, hx, hs, c, (arcs_same hj).1 hc, e⟩
      · rintro ⟨x, hx, hs, c, hc, e⟩
        rw [← woke_same hj h h0] at hs e
        exact ⟨x, hx, hs, c, (arcs_same hj).2 hc, e⟩
    · rw [ml_out j s hv, ml_out k u (by rw [hj.n]; exact hv)]
  have hv : valsG k u = valsG j s := by
    unfold valsG
    rw [hj.n]
    exact List.map_congr_left fun v _ => by rw [woke_same hj h h0]
  have ha : anyG (mailG k u) = anyG (mailG j s) := by
    rw [Bool.eq_iff_iff, anyG_iff, anyG_iff]
    constructor
    · rintro ⟨v, m, hx⟩; exact ⟨v, m, (hm v m).1 hx⟩
    · rintro ⟨v, m, hx⟩; exact ⟨v, m, (hm v m).2 hx⟩
  cases hd : s.done
  · have hd' : u.done = false := by rw [h.done]; exact hd
    cases hq : anyG (mailG j s)
    · rw [nextG_quiet hd hq, nextG_quiet hd' (ha.trans hq), hj.kind, h.phase, hv, h.step]
      exact ⟨rfl, rfl, rfl, rfl, rfl, hm⟩
    · rw [nextG_go hd hq, nextG_go hd' (ha.trans hq), h.phase, hv, h.step]
      exact ⟨rfl, rfl, rfl, rfl, rfl, hm⟩
  · have hd' : u.done = true := by rw [h.done]; exact hd
    have e1 : nextG j s = s := by unfold nextG; rw [hd]; rfl
    have e2 : nextG k u = u := by unfold nextG; rw [hd']; rfl
    rw [e1, e2]; exact h
theorem good_mail {j : Jb} {s : Stt} (h : GoodS j s) : ∀ v m, m ∈ ml s.mail v → 0 ≤ m := by
  intro v m hm
  unfold ml at hm
  cases hx : s.mail[v]? with
  | none => rw [hx] at hm; cases hm
  | some l => rw [hx] at hm; exact (h.range l (List.mem_of_getElem? hx) m hm).1
theorem sim_it {j k : Jb} (hj : SimJ j k) (hok : ∀ i : Nat, i ≤ 1000 → GoodS j (itG j i (beginG j))) : ∀ i : Nat, i ≤ 1000 → SimS (itG j i (beginG j)) (itG k i (beginG k))
  | 0, _ => by
    show SimS (beginG j) (beginG k)
    unfold beginG
    rw [hj.n]
    exact ⟨rfl, rfl, rfl, rfl, rfl, fun _ _ => Iff.rfl⟩
  | i + 1, hi => by
    have h1 : itG j (i + 1) (beginG j) = nextG j (itG j i (beginG j)) := by rw [itG_add]; rfl
    have h2 : itG k (i + 1) (beginG k) = nextG k (itG k i (beginG k)) := by rw [itG_add]; rfl
    rw [h1, h2]
    exact sim_next hj (sim_it hj hok i (by omega)) (good_mail (hok i (by omega)))
end Go.Proofs.Ytbholafggbdieaa
