/- Rounds in plain lists: what a round makes of a state, and that a job ends. No program in sight. -/
import Derived.Test.YtbholafggbdieaaBegin
import Derived.Test.YtbholafggbdieaaOpenAny
namespace Go.Proofs.Ytbholafggbdieaa
/-- What follows when nothing was said: phase, fresh, done. -/
def quietG (kind phase : Int) (op : Bool) : Int × Bool × Bool :=
  if kind ≠ 3 then (phase, false, true) else if phase = 0 then (1, true, false) else if op then (0, true, false) else (phase, false, true)
/-- What vertex v becomes in a round, and whether it speaks. -/
def wokeG (j : Jb) (s : Stt) (v : Nat) : Vl × Bool :=
  if s.fresh = false ∧ s.mail[v]?.getD [] = [] then (s.vals[v]?.getD ⟨-1, -1⟩, false)
  else wakeG j.kind v j.src (s.vals[v]?.getD ⟨-1, -1⟩) s.phase s.fresh (s.mail[v]?.getD [])
/-- What a vertex says along one edge; along many. -/
def lineG (kind phase v : Int) (x : Vl) (e : Ed) : List (Int × Int) :=
  (if outG kind phase = true ∧ e.f = v then [(e.t, sayG kind x e.g)] else []) ++ (if inG kind phase = true ∧ e.t = v then [(e.f, sayG kind x e.g)] else [])
def sayV (kind phase v : Int) (x : Vl) (es : List Ed) : List (Int × Int) := es.flatMap (lineG kind phase v x)
def msgV (j : Jb) (s : Stt) (v : Nat) : List (Int × Int) := if (wokeG j s v).2 then sayV j.kind s.phase v (wokeG j s v).1 j.es else []
def msgsG (j : Jb) (s : Stt) (k : Nat) : List (Int × Int) := (List.range k).flatMap (msgV j s)
def boxG (ms : List (Int × Int)) (u : Nat) : List Int := (ms.filter (fun m => decide (m.1 = (u : Int)))).map Prod.snd
def sortG (l : List Int) : List Int := l.mergeSort (fun a b => decide (a ≤ b))
def valsG (j : Jb) (s : Stt) : List Vl := (List.range j.n.toNat).map fun v => (wokeG j s v).1
def rawG (j : Jb) (ms : List (Int × Int)) : List (List Int) := (List.range j.n.toNat).map (boxG ms)
def mailG (j : Jb) (s : Stt) : List (List Int) := (rawG j (msgsG j s j.n.toNat)).map sortG
def anyG (mail : List (List Int)) : Bool := mail.any fun l => !l.isEmpty
def nextG (j : Jb) (s : Stt) : Stt :=
  if s.done then s
  else if anyG (mailG j s) then ⟨s.step + 1, s.phase, false, false, valsG j s, mailG j s⟩
  else ⟨s.step + 1, (quietG j.kind s.phase (openB (valsG j s))).1, (quietG j.kind s.phase (openB (valsG j s))).2.1, (quietG j.kind s.phase (openB (valsG j s))).2.2, valsG j s, mailG j s⟩

theorem sortG_perm (l : List Int) : (sortG l).Perm l := List.mergeSort_perm _ _
theorem sortG_sorted (l : List Int) : (sortG l).Pairwise (· ≤ ·) := by
  have := List.pairwise_mergeSort (le := fun a b : Int => decide (a ≤ b)) (by intro a b c; simp; omega) (by intro a b; simp; omega) l
  simpa [sortG] using this
theorem sortG_len (l : List Int) : (sortG l).length = l.length := (sortG_perm l).length_eq
theorem sortG_unique {l d : List Int} (hp : d.Perm l) (hs : d.Pairwise (· ≤ ·)) : d = sortG l :=
  List.Perm.eq_of_pairwise (le := (· ≤ ·)) (fun a b _ _ h1 h2 => by omega) hs (sortG_sorted l) (hp.trans (sortG_perm l).symm)

/-- The ways along which something is said, each with what is added. -/
def arcs (j : Jb) (phase : Int) : List (Int × Int × Int) :=
  j.es.flatMap fun e => (if outG j.kind phase = true then [(e.f, e.t, if j.kind = 1 then e.g else 0)] else []) ++ (if inG j.kind phase = true then [(e.t, e.f, if j.kind = 1 then e.g else 0)] else [])
theorem mem_arcs {j : Jb} {phase u v c : Int} : (u, v, c) ∈ arcs j phase ↔ ∃ e ∈ j.es, (c = if j.kind = 1 then e.g else 0) ∧ ((outG j.kind phase = true ∧ u = e.f ∧ v = e.t) ∨ (inG j.kind phase = true ∧ u = e.t ∧ v = e.f)) := by
  simp only [arcs, List.mem_flatMap]
  constructor
  · rintro ⟨e, he, h⟩
    refine ⟨e, he, ?_⟩
    rw [List.mem_append] at h
    rcases h with h | h
    · split at h
      · simp at h; rename_i ho; exact ⟨h.2.2, Or.inl ⟨ho, h.1, h.2.1⟩⟩
      · cases h
    · split at h
      · simp at h; rename_i ho; exact ⟨h.2.2, Or.inr ⟨ho, h.1, h.2.1⟩⟩
      · cases h
  · rintro ⟨e, he, rfl, ⟨ho, rfl, rfl⟩ | ⟨ho, rfl, rfl⟩⟩
    · exact ⟨e, he, by rw [if_pos ho]; simp⟩
    · exact ⟨e, he, by rw [if_pos ho]; simp⟩
theorem mem_sayV {j : Jb} {phase v u m : Int} {x : Vl} : (u, m) ∈ sayV j.kind phase v x j.es ↔ ∃ c, (v, u, c) ∈ arcs j phase ∧ m = x.a + c := by
  simp only [sayV, List.mem_flatMap, mem_arcs]
  have hs : ∀ e : Ed, sayG j.kind x e.g = x.a + (if j.kind = 1 then e.g else 0) := by intro e; unfold sayG; split <;> simp
  constructor
  · rintro ⟨e, he, h⟩
    unfold lineG at h
    rw [List.mem_append] at h
    refine ⟨_, ⟨e, he, rfl, ?_⟩, ?_⟩
    · rcases h with h | h
      · split at h
        · rename_i ho; simp at h; exact Or.inl ⟨ho.1, ho.2.symm, h.1⟩
        · cases h
      · split at h
        · rename_i ho; simp at h; exact Or.inr ⟨ho.1, ho.2.symm, h.1⟩
        · cases h
    · rcases h with h | h
      · split at h
        · simp at h; rw [h.2, hs]
        · cases h
      · split at h
        · simp at h; rw [h.2, hs]
        · cases h
  · rintro ⟨c, ⟨e, he, rfl, h⟩, rfl⟩
    refine ⟨e, he, ?_⟩
    unfold lineG
    rw [List.mem_append]
    rcases h with ⟨ho, rfl, rfl⟩ | ⟨ho, rfl, rfl⟩
    · left; rw [if_pos ⟨ho, rfl⟩, hs]; simp
    · right; rw [if_pos ⟨ho, rfl⟩, hs]; simp
theorem mem_msgs {j : Jb} {s : Stt} {k : Nat} {u m : Int} : (u, m) ∈ msgsG j s k ↔ ∃ v, v < k ∧ (wokeG j s v).2 = true ∧ ∃ c, ((v : Int), u, c) ∈ arcs j s.phase ∧ m = (wokeG j s v).1.a + c := by
  simp only [msgsG, List.mem_flatMap, List.mem_range, msgV]
  constructor
  · rintro ⟨v, hv, h⟩
    split at h
    · rename_i ho; exact ⟨v, hv, ho, mem_sayV.1 h⟩
    · cases h
  · rintro ⟨v, hv, ho, h⟩
    exact ⟨v, hv, by rw [if_pos ho]; exact mem_sayV.2 h⟩
theorem mem_box {ms : List (Int × Int)} {u : Nat} {m : Int} : m ∈ boxG ms u ↔ ((u : Int), m) ∈ ms := by
  simp only [boxG, List.mem_map, List.mem_filter, decide_eq_true_eq, Prod.exists]
  constructor
  · rintro ⟨a, b, ⟨h1, h2⟩, h3⟩; rw [← h2, ← h3]; exact h1
  · intro h; exact ⟨_, _, ⟨h, rfl⟩, rfl⟩
theorem mailG_at (j : Jb) (s : Stt) (u : Nat) : (mailG j s)[u]? = if u < j.n.toNat then some (sortG (boxG (msgsG j s j.n.toNat) u)) else none := by
  unfold mailG rawG
  rw [List.getElem?_map, List.getElem?_map]
  split
  · rename_i h; rw [List.getElem?_range h]; rfl
  · rename_i h; rw [List.getElem?_eq_none (by simpa using h)]; rfl
theorem valsG_at (j : Jb) (s : Stt) (u : Nat) : (valsG j s)[u]? = if u < j.n.toNat then some (wokeG j s u).1 else none := by
  unfold valsG
  rw [List.getElem?_map]
  split
  · rename_i h; rw [List.getElem?_range h]; rfl
  · rename_i h; rw [List.getElem?_eq_none (by simpa using h)]; rfl
/-- Mail at a vertex, value at a vertex. -/
def mlAt (s : Stt) (v : Nat) : List Int := s.mail[v]?.getD []
def vlAt (s : Stt) (v : Nat) : Vl := s.vals[v]?.getD ⟨-1, -1⟩
theorem mem_mailG {j : Jb} {s : Stt} {u : Nat} {m : Int} (hu : u < j.n.toNat) : m ∈ (mailG j s)[u]?.getD [] ↔ ∃ v, v < j.n.toNat ∧ (wokeG j s v).2 = true ∧ ∃ c, ((v : Int), (u : Int), c) ∈ arcs j s.phase ∧ m = (wokeG j s v).1.a + c := by
  rw [mailG_at, if_pos hu, Option.getD_some, (sortG_perm _).mem_iff, mem_box, mem_msgs]
theorem anyG_iff (l : List (List Int)) : anyG l = true ↔ ∃ (u : Nat) (m : Int), m ∈ l[u]?.getD [] := by
  simp only [anyG, List.any_eq_true]
  constructor
  · rintro ⟨x, hx, h⟩
    obtain ⟨u, hu⟩ := List.mem_iff_getElem?.1 hx
    cases x with
    | nil => simp at h
    | cons a l => exact ⟨u, a, by rw [hu]; simp⟩
  · rintro ⟨u, m, h⟩
    cases hx : l[u]? with
    | none => rw [hx] at h; simp at h
    | some x =>
      rw [hx] at h
      refine ⟨x, List.mem_of_getElem? hx, ?_⟩
      cases x with
      | nil => simp at h
      | cons a l => simp
theorem lowG_spec (old : Vl) (mail : List Int) (h0 : ∀ m ∈ mail, 0 ≤ m) :
    (lowG old mail).1.l = old.l ∧ ((lowG old mail).2 = false → (lowG old mail).1 = old ∧ ∀ m ∈ mail, old.a ≠ -1 ∧ old.a ≤ m) ∧
    ((lowG old mail).2 = true → (lowG old mail).1.a ∈ mail ∧ (old.a = -1 ∨ (lowG old mail).1.a < old.a) ∧ ∀ m ∈ mail, (lowG old mail).1.a ≤ m) := by
  have key : ∀ (ms pre : List Int) (p : Vl × Bool), (∀ m ∈ pre ++ ms, 0 ≤ m) → p.1.l = old.l → (p.2 = false → p.1 = old ∧ ∀ m ∈ pre, old.a ≠ -1 ∧ old.a ≤ m) →
      (p.2 = true → p.1.a ∈ pre ∧ (old.a = -1 ∨ p.1.a < old.a) ∧ ∀ m ∈ pre, p.1.a ≤ m) →
      (ms.foldl lowS p).1.l = old.l ∧ ((ms.foldl lowS p).2 = false → (ms.foldl lowS p).1 = old ∧ ∀ m ∈ pre ++ ms, old.a ≠ -1 ∧ old.a ≤ m) ∧
      ((ms.foldl lowS p).2 = true → (ms.foldl lowS p).1.a ∈ pre ++ ms ∧ (old.a = -1 ∨ (ms.foldl lowS p).1.a < old.a) ∧ ∀ m ∈ pre ++ ms, (ms.foldl lowS p).1.a ≤ m) := by
    intro ms
    induction ms with
    | nil => intro pre p _ h1 h2 h3; simp only [List.foldl_nil, List.append_nil]; exact ⟨h1, h2, h3⟩
    | cons m ms ih =>
      intro pre p h0 h1 h2 h3
      have e : pre ++ m :: ms = (pre ++ [m]) ++ ms := by simp
      rw [List.foldl_cons, e]
      rw [e] at h0
      have hm : 0 ≤ m := h0 m (by simp)
      by_cases hc : p.1.a = -1 ∨ m < p.1.a
      · have e1 : lowS p m = (⟨m, p.1.l⟩, true) := by unfold lowS; rw [if_pos hc]
        rw [e1]
        refine ih _ _ h0 h1 (fun h => by cases h) (fun _ => ⟨by simp, ?_, ?_⟩)
        · show old.a = -1 ∨ m < old.a
          cases hp : p.2
          · have := (h2 hp).1; rw [this] at hc; exact hc
          · obtain ⟨g1, g2, _⟩ := h3 hp
            have := h0 _ (List.mem_append_left _ (List.mem_append_left _ g1))
            omega
        · intro x hx
          show m ≤ x
          rcases List.mem_append.1 hx with hx | hx
          · cases hp : p.2
            · obtain ⟨g1, g2⟩ := h2 hp
              have := g2 x hx; rw [g1] at hc; omega
            · obtain ⟨g1, g2, g3⟩ := h3 hp
              have := g3 x hx
              have := h0 _ (List.mem_append_left _ (List.mem_append_left _ g1))
              omega
          · simp at hx; omega
      · have e1 : lowS p m = p := by unfold lowS; rw [if_neg hc]
        rw [e1]
        refine ih _ _ h0 h1 (fun h => ⟨(h2 h).1, fun x hx => ?_⟩) (fun h => ⟨?_, (h3 h).2.1, fun x hx => ?_⟩)
        · rcases List.mem_append.1 hx with hx | hx
          · exact (h2 h).2 x hx
          · simp at hx; rw [(h2 h).1] at hc; omega
        · exact List.mem_append_left _ (h3 h).1
        · rcases List.mem_append.1 hx with hx | hx
          · exact (h3 h).2.2 x hx
          · simp at hx; omega
  have := key mail [] (old, false) (by simpa using h0) rfl (fun _ => ⟨rfl, by simp⟩) (fun h => by cases h)
  simpa [lowG] using this

/-- What a vertex begins with. -/
def initA (j : Jb) (v : Nat) : Option Int := if j.kind = 1 then (if (v : Int) = j.src then some 0 else none) else some v
/-- A number that comes to a vertex, over vertices of U alone. -/
inductive Wt (j : Jb) (U : Nat → Prop) : Nat → Int → Prop
  | base {v : Nat} {a : Int} : U v → v < j.n.toNat → initA j v = some a → Wt j U v a
  | step {u v : Nat} {a c : Int} : Wt j U u a → ((u : Int), (v : Int), c) ∈ arcs j 0 → U v → Wt j U v (a + c)
def va (vals : List Vl) (v : Nat) : Vl := vals[v]?.getD ⟨-1, -1⟩
def ml (mail : List (List Int)) (v : Nat) : List Int := mail[v]?.getD []

structure FInv (j : Jb) (U : Nat → Prop) (old : List Vl) (k : Nat) (vals : List Vl) (mail : List (List Int)) : Prop where
  sound : ∀ v, v < j.n.toNat → U v → (va vals v).a ≠ -1 → Wt j U v (va vals v).a
  init : ∀ v a, v < j.n.toNat → U v → initA j v = some a → (va vals v).a ≠ -1 ∧ (va vals v).a ≤ a
  arc : ∀ (u v : Nat) c, u < j.n.toNat → v < j.n.toNat → ((u : Int), (v : Int), c) ∈ arcs j 0 → U u → U v → (va vals u).a ≠ -1 → (va vals u).a + c ∈ ml mail v ∨ ((va vals v).a ≠ -1 ∧ (va vals v).a ≤ (va vals u).a + c)
  mail : ∀ v m, v < j.n.toNat → m ∈ ml mail v → 0 ≤ m ∧ (U v → Wt j U v m) ∧ ∃ ch : List Nat, ch.Nodup ∧ ch.length = k ∧ ∀ x ∈ ch, x < j.n.toNat ∧ U x ∧ (va vals x).a ≠ -1 ∧ (va vals x).a ≤ m
  keep : ∀ v, v < j.n.toNat → ¬ U v → va vals v = va old v
  lab : ∀ v, v < j.n.toNat → U v → (va vals v).l = -1
  low : ∀ v, v < j.n.toNat → U v → -1 ≤ (va vals v).a

theorem arcs_range {j : Jb} (hj : GoodJ j) {phase u v c : Int} (h : (u, v, c) ∈ arcs j phase) : 0 ≤ u ∧ u < j.n ∧ 0 ≤ v ∧ v < j.n ∧ 0 ≤ c := by
  obtain ⟨e, he, hc, h'⟩ := mem_arcs.1 h
  clear h
  subst hc
  have := (checkG_zero hj.g).2.2.2 e he
  simp only [goodE, insB, Bool.and_eq_true, decide_eq_true_eq] at this
  rcases h' with ⟨_, rfl, rfl⟩ | ⟨_, rfl, rfl⟩ <;> (split <;> omega)
theorem va_valsG {j : Jb} {s : Stt} {v : Nat} (h : v < j.n.toNat) : va (valsG j s) v = (wokeG j s v).1 := by
  unfold va; rw [valsG_at, if_pos h]; rfl
theorem mem_mlG {j : Jb} {s : Stt} {u : Nat} {m : Int} (hu : u < j.n.toNat) : m ∈ ml (mailG j s) u ↔ ∃ v, v < j.n.toNat ∧ (wokeG j s v).2 = true ∧ ∃ c, ((v : Int), (u : Int), c) ∈ arcs j s.phase ∧ m = (wokeG j s v).1.a + c := mem_mailG hu

/-- How a vertex wakes in the way forward. -/
structure FWake (j : Jb) (U : Nat → Prop) (s : Stt) : Prop where
  yes : ∀ v, v < j.n.toNat → U v → wokeG j s v = lowG (va s.vals v) (ml s.mail v)
  no : ∀ v, v < j.n.toNat → ¬ U v → wokeG j s v = (va s.vals v, false)

theorem fwd_step {j : Jb} (hj : GoodJ j) {U : Nat → Prop} {old : List Vl} {k : Nat} {s : Stt} (hp : s.phase = 0) (hw : FWake j U s) (h : FInv j U old k s.vals s.mail) :
    FInv j U old (k + 1) (valsG j s) (mailG j s) := by
  have LS : ∀ v, v < j.n.toNat → _ := fun v hv => lowG_spec (va s.vals v) (ml s.mail v) (fun m hm => (h.mail v m hv hm).1)
  have mono : ∀ v, v < j.n.toNat → U v → (va s.vals v).a ≠ -1 → (wokeG j s v).1.a ≠ -1 ∧ (wokeG j s v).1.a ≤ (va s.vals v).a := by
    intro v hv hU hne
    rw [hw.yes v hv hU]
    obtain ⟨_, h2, h3⟩ := LS v hv
    cases hs : (lowG (va s.vals v) (ml s.mail v)).2
    · rw [(h2 hs).1]; exact ⟨hne, Int.le_refl _⟩
    · obtain ⟨g1, g2, _⟩ := h3 hs
      have := (h.mail v _ hv g1).1
      omega
  have got : ∀ v, v < j.n.toNat → U v → ∀ m ∈ ml s.mail v, (wokeG j s v).1.a ≠ -1 ∧ (wokeG j s v).1.a ≤ m := by
    intro v hv hU m hm
    rw [hw.yes v hv hU]
    obtain ⟨_, h2, h3⟩ := LS v hv
    cases hs : (lowG (va s.vals v) (ml s.mail v)).2
    · rw [(h2 hs).1]; exact (h2 hs).2 m hm
    · obtain ⟨g1, g2, g3⟩ := h3 hs
      have := (h.mail v _ hv g1).1
      exact ⟨by omega, g3 m hm⟩
  refine ⟨?_, ?_, ?_, ?_, ?_, ?_, ?_⟩
  · intro v hv hU hne
    rw [va_valsG hv] at hne ⊢
    rw [hw.yes v hv hU] at hne ⊢
    obtain ⟨_, h2, h3⟩ := LS v hv
    cases hs : (lowG (va s.vals v) (ml s.mail v)).2
    · rw [(h2 hs).1] at hne ⊢; exact h.sound v hv hU hne
    · exact (h.mail v _ hv (h3 hs).1).2.1 hU
  · intro v a hv hU ha
    rw [va_valsG hv]
    obtain ⟨h1, h2⟩ := h.init v a hv hU ha
    have := mono v hv hU h1
    omega
  · intro u v c hu hv hc hUu hUv hne
    rw [va_valsG hu] at hne ⊢
    rw [va_valsG hv]
    cases hs : (wokeG j s u).2
    · have e : (wokeG j s u).1 = va s.vals u := by
        have e := hw.yes u hu hUu
        rw [e] at hs ⊢
        exact ((LS u hu).2.1 hs).1
      rw [e] at hne ⊢
      rcases h.arc u v c hu hv hc hUu hUv hne with g | ⟨g1, g2⟩
      · exact Or.inr (got v hv hUv _ g)
      · have := mono v hv hUv g1
        exact Or.inr ⟨this.1, by omega⟩
    · exact Or.inl ((mem_mlG hv).2 ⟨u, hu, hs, c, by rw [hp]; exact hc, rfl⟩)
  · intro v m hv hm
    obtain ⟨u, hu, hs, c, hc, rfl⟩ := (mem_mlG hv).1 hm
    rw [hp] at hc
    have hc0 := (arcs_range hj hc).2.2.2.2
    have hUu : U u := by
      apply Classical.byContradiction
      intro hn
      rw [hw.no u hu hn] at hs
      cases hs
    have e := hw.yes u hu hUu
    rw [e] at hs ⊢
    obtain ⟨_, _, h3⟩ := LS u hu
    obtain ⟨g1, g2, g3⟩ := h3 hs
    obtain ⟨m0, m1, ch, c1, c2, c3⟩ := h.mail u _ hu g1
    refine ⟨by omega, fun hUv => Wt.step (m1 hUu) hc hUv, u :: ch, ?_, by simp [c2], ?_⟩
    · rw [List.nodup_cons]
      refine ⟨fun hin => ?_, c1⟩
      have := c3 u hin
      omega
    · intro x hx
      rcases List.mem_cons.1 hx with rfl | hx
      · rw [va_valsG hu, e]
        exact ⟨hu, hUu, by omega, by omega⟩
      · obtain ⟨x1, x2, x3, x4⟩ := c3 x hx
        have := mono x x1 x2 x3
        rw [va_valsG x1]
        exact ⟨x1, x2, this.1, by omega⟩
  · intro v hv hU
    rw [va_valsG hv, hw.no v hv hU]
    exact h.keep v hv hU
  · intro v hv hU
    rw [va_valsG hv, hw.yes v hv hU, (LS v hv).1]
    exact h.lab v hv hU
  · intro v hv hU
    rw [va_valsG hv, hw.yes v hv hU]
    obtain ⟨_, h2, h3⟩ := LS v hv
    cases hs : (lowG (va s.vals v) (ml s.mail v)).2
    · rw [(h2 hs).1]; exact h.low v hv hU
    · have := (h.mail v _ hv (h3 hs).1).1; omega

/-- The round in which all begin. -/
structure FFresh (j : Jb) (U : Nat → Prop) (s : Stt) : Prop where
  yes : ∀ v, v < j.n.toNat → U v → (wokeG j s v).1.l = -1 ∧ (∀ a, initA j v = some a → wokeG j s v = (⟨a, -1⟩, true)) ∧ (initA j v = none → wokeG j s v = (⟨-1, -1⟩, false))
  no : ∀ v, v < j.n.toNat → ¬ U v → wokeG j s v = (va s.vals v, false)
theorem initA_nat {j : Jb} {v : Nat} {a : Int} (h : initA j v = some a) : 0 ≤ a := by
  unfold initA at h
  split at h
  · split at h
    · injection h with h; omega
    · cases h
  · injection h with h; omega

theorem fwd_fresh {j : Jb} (hj : GoodJ j) {U : Nat → Prop} {s : Stt} (hp : s.phase = 0) (hw : FFresh j U s) :
    FInv j U s.vals 1 (valsG j s) (mailG j s) := by
  have CA : ∀ v, v < j.n.toNat → U v → (∃ a, 0 ≤ a ∧ initA j v = some a ∧ wokeG j s v = (⟨a, -1⟩, true)) ∨ (initA j v = none ∧ wokeG j s v = (⟨-1, -1⟩, false)) := by
    intro v hv hU
    cases hi : initA j v with
    | none => exact Or.inr ⟨rfl, (hw.yes v hv hU).2.2 hi⟩
    | some a => exact Or.inl ⟨a, initA_nat hi, rfl, (hw.yes v hv hU).2.1 a hi⟩
  refine ⟨?_, ?_, ?_, ?_, ?_, ?_, ?_⟩
  · intro v hv hU hne
    rw [va_valsG hv] at hne ⊢
    rcases CA v hv hU with ⟨a, h0, hi, e⟩ | ⟨hi, e⟩
    · rw [e]; exact Wt.base hU hv hi
    · rw [e] at hne; exact absurd rfl hne
  · intro v a hv hU ha
    rw [va_valsG hv, (hw.yes v hv hU).2.1 a ha]
    have := initA_nat ha
    exact ⟨by simp only; omega, Int.le_refl _⟩
  · intro u v c hu hv hc hUu hUv hne
    rw [va_valsG hu] at hne ⊢
    rcases CA u hu hUu with ⟨a, h0, hi, e⟩ | ⟨hi, e⟩
    · exact Or.inl ((mem_mlG hv).2 ⟨u, hu, by rw [e], c, by rw [hp]; exact hc, rfl⟩)
    · rw [e] at hne; exact absurd rfl hne
  · intro v m hv hm
    obtain ⟨u, hu, hs, c, hc, rfl⟩ := (mem_mlG hv).1 hm
    rw [hp] at hc
    have hc0 := (arcs_range hj hc).2.2.2.2
    have hUu : U u := by
      apply Classical.byContradiction
      intro hn
      rw [hw.no u hu hn] at hs
      cases hs
    rcases CA u hu hUu with ⟨a, h0, hi, e⟩ | ⟨hi, e⟩
    · rw [e]
      refine ⟨by simp only; omega, fun hUv => Wt.step (Wt.base hUu hu hi) hc hUv, [u], by simp, rfl, ?_⟩
      intro x hx
      simp at hx
      subst hx
      rw [va_valsG hu, e]
      exact ⟨hu, hUu, by simp only; omega, by simp only; omega⟩
    · rw [e] at hs; cases hs
  · intro v hv hU
    rw [va_valsG hv, hw.no v hv hU]
  · intro v hv hU
    rw [va_valsG hv]; exact (hw.yes v hv hU).1
  · intro v hv hU
    rw [va_valsG hv]
    rcases CA v hv hU with ⟨a, h0, hi, e⟩ | ⟨hi, e⟩
    · rw [e]; simp only; omega
    · rw [e]; simp

theorem chain_short {n : Nat} {ch : List Nat} (hn : ch.Nodup) (h : ∀ x ∈ ch, x < n) : ch.length ≤ n := by
  have : ch ⊆ List.range n := fun x hx => List.mem_range.2 (h x hx)
  have := hn.length_le_of_subset this
  simpa using this
theorem fwd_len {j : Jb} {U : Nat → Prop} {old : List Vl} {k : Nat} {vals : List Vl} {mail : List (List Int)} (hl : mail.length = j.n.toNat) (h : FInv j U old k vals mail) (ha : anyG mail = true) : k ≤ j.n.toNat := by
  obtain ⟨u, m, hm⟩ := (anyG_iff mail).1 ha
  have hu : u < j.n.toNat := by
    rw [← hl]
    apply Classical.byContradiction
    intro hn
    rw [List.getElem?_eq_none (by omega)] at hm
    simp at hm
  obtain ⟨_, _, ch, c1, rfl, c3⟩ := h.mail u m hu hm
  exact chain_short c1 (fun x hx => (c3 x hx).1)
/-- What holds when nobody speaks any more. -/
theorem fwd_quiet {j : Jb} {U : Nat → Prop} (hj : GoodJ j) {old : List Vl} {k : Nat} {vals : List Vl} {mail : List (List Int)} (h : FInv j U old k vals mail) (ha : anyG mail = false) :
    ∀ v, v < j.n.toNat → U v → ((va vals v).a = -1 ∨ Wt j U v (va vals v).a) ∧ ∀ a, Wt j U v a → (va vals v).a ≠ -1 ∧ (va vals v).a ≤ a := by
  have hno : ∀ u m, m ∉ ml mail u := by
    intro u m hm
    have : anyG mail = true := (anyG_iff mail).2 ⟨u, m, hm⟩
    rw [ha] at this; cases this
  intro v hv hU
  refine ⟨?_, ?_⟩
  · rcases Classical.em ((va vals v).a = -1) with h' | h'
    · exact Or.inl h'
    · exact Or.inr (h.sound v hv hU h')
  · intro a hW
    have key : ∀ v a, Wt j U v a → v < j.n.toNat ∧ U v ∧ (va vals v).a ≠ -1 ∧ (va vals v).a ≤ a := by
      intro v a hW
      induction hW with
      | base hU hv hi => exact ⟨hv, hU, h.init _ _ hv hU hi⟩
      | @step u v a c _ hc hU ih =>
        obtain ⟨i1, i2, i3, i4⟩ := ih
        have hr := arcs_range hj hc
        have hv : v < j.n.toNat := by omega
        refine ⟨hv, hU, ?_⟩
        rcases h.arc u v c i1 hv hc i2 hU i3 with g | ⟨g1, g2⟩
        · exact absurd g (hno v _)
        · exact ⟨g1, by omega⟩
    exact (key v a hW).2.2
def itG (j : Jb) : Nat → Stt → Stt
  | 0, s => s
  | k + 1, s => itG j k (nextG j s)
theorem itG_add (j : Jb) (a b : Nat) (s : Stt) : itG j (a + b) s = itG j b (itG j a s) := by
  induction a generalizing s with
  | zero => simp [itG]
  | succ a ih => rw [Nat.succ_add]; exact ih _
def UOf (j : Jb) (s : Stt) (v : Nat) : Prop := j.kind ≠ 3 ∨ (va s.vals v).l = -1
theorem wakeG_fwd {kind v src : Int} {old : Vl} {mail : List Int} (hk : kind = 1 ∨ kind = 2 ∨ kind = 3) (h : kind ≠ 3 ∨ old.l = -1) : wakeG kind v src old 0 false mail = lowG old mail := by
  rcases hk with rfl | rfl | rfl
  · rfl
  · rfl
  · have hl : old.l = -1 := by rcases h with h | h; exact absurd rfl h; exact h
    simp [wakeG, hl]
theorem wakeG_lab {v src : Int} {old : Vl} {phase : Int} {fresh : Bool} {mail : List Int} (h : old.l ≠ -1) : wakeG 3 v src old phase fresh mail = (old, false) := by
  simp [wakeG, h]
theorem woke_eq (j : Jb) (s : Stt) (v : Nat) : wokeG j s v = if s.fresh = false ∧ ml s.mail v = [] then (va s.vals v, false) else wakeG j.kind v j.src (va s.vals v) s.phase s.fresh (ml s.mail v) := rfl
theorem fwake_of {j : Jb} (hj : GoodJ j) {s0 s : Stt} {k : Nat} (hp : s.phase = 0) (hf : s.fresh = false) (h : FInv j (UOf j s0) s0.vals k s.vals s.mail) : FWake j (UOf j s0) s := by
  refine ⟨fun v hv hU => ?_, fun v hv hU => ?_⟩
  · rw [woke_eq, hf, hp]
    have hl := h.lab v hv hU
    split
    · rename_i hm; rw [hm.2]; rfl
    · exact wakeG_fwd hj.kind (Or.inr hl)
  · rw [woke_eq, hf, hp]
    have hk3 : j.kind = 3 := by apply Classical.byContradiction; intro hn; exact hU (Or.inl hn)
    have hl : (va s.vals v).l ≠ -1 := by rw [h.keep v hv hU]; intro hl; exact hU (Or.inr hl)
    split
    · rfl
    · rw [hk3]; exact wakeG_lab hl
theorem ffresh_of {j : Jb} (hj : GoodJ j) {s : Stt} (hp : s.phase = 0) (hf : s.fresh = true) : FFresh j (UOf j s) s := by
  refine ⟨fun v hv hU => ?_, fun v hv hU => ?_⟩
  · have e : wokeG j s v = wakeG j.kind v j.src (va s.vals v) 0 true (ml s.mail v) := by rw [woke_eq, hf, hp]; simp
    rw [e]
    unfold initA
    rcases hj.kind with hk | hk | hk
    · rw [hk]
      by_cases hs : (v : Int) = j.src
      · simp [wakeG, hs]
      · simp [wakeG, hs]
    · rw [hk]; simp [wakeG]
    · have hl : (va s.vals v).l = -1 := by rcases hU with h | h; exact absurd hk h; exact h
      rw [hk]; simp [wakeG, hl]
  · rw [woke_eq, hf, hp]
    have hk3 : j.kind = 3 := by apply Classical.byContradiction; intro hn; exact hU (Or.inl hn)
    have hl : (va s.vals v).l ≠ -1 := fun hl => hU (Or.inr hl)
    rw [hk3, wakeG_lab hl]; simp
theorem len_mailG (j : Jb) (s : Stt) : (mailG j s).length = j.n.toNat := by simp [mailG, rawG]
theorem len_valsG (j : Jb) (s : Stt) : (valsG j s).length = j.n.toNat := by simp [valsG]
theorem nextG_go {j : Jb} {s : Stt} (hd : s.done = false) (ha : anyG (mailG j s) = true) : nextG j s = ⟨s.step + 1, s.phase, false, false, valsG j s, mailG j s⟩ := by
  unfold nextG; rw [hd, ha]; rfl
theorem nextG_quiet {j : Jb} {s : Stt} (hd : s.done = false) (ha : anyG (mailG j s) = false) : nextG j s = ⟨s.step + 1, (quietG j.kind s.phase (openB (valsG j s))).1, (quietG j.kind s.phase (openB (valsG j s))).2.1, (quietG j.kind s.phase (openB (valsG j s))).2.2, valsG j s, mailG j s⟩ := by
  unfold nextG; rw [hd, ha]; rfl

/-- The end of a way forward: what holds of the state behind it. -/
structure FEnd (j : Jb) (s s' : Stt) (k : Nat) : Prop where
  step : s'.step = s.step + k
  k0 : 1 ≤ k
  k1 : k ≤ j.n.toNat + 1
  flags : (s'.phase, s'.fresh, s'.done) = quietG j.kind 0 (openB s'.vals)
  no : anyG s'.mail = false
  vlen : s'.vals.length = j.n.toNat
  mlen : s'.mail.length = j.n.toNat
  inv : ∃ r, FInv j (UOf j s) s.vals r s'.vals s'.mail
theorem fwd_run {j : Jb} (hj : GoodJ j) {s : Stt} (hp : s.phase = 0) (hf : s.fresh = true) (hd : s.done = false) : ∃ k, FEnd j s (itG j k s) k := by
  have go : ∀ (m r : Nat) (t : Stt), j.n.toNat + 1 - r = m → 1 ≤ r → t.step = s.step + r → t.phase = 0 → t.fresh = false → t.done = false → t.mail.length = j.n.toNat → anyG t.mail = true → FInv j (UOf j s) s.vals r t.vals t.mail → ∃ k, FEnd j s (itG j k t) (r + k) := by
    intro m
    induction m with
    | zero =>
      intro r t hm _ _ _ _ _ hl ha h
      have := fwd_len hl h ha
      omega
    | succ m ih =>
      intro r t hm hr hs hp hf hd hl ha h
      have hlen := fwd_len hl h ha
      have h' := fwd_step hj hp (fwake_of hj hp hf h) h
      cases hq : anyG (mailG j t)
      · refine ⟨1, ?_⟩
        show FEnd j s (nextG j t) (r + 1)
        rw [nextG_quiet hd hq, hp]
        exact ⟨by simp only; omega, by omega, by omega, rfl, hq, len_valsG _ _, len_mailG _ _, _, h'⟩
      · have e := nextG_go hd hq
        obtain ⟨k, hk⟩ := ih (r + 1) (nextG j t) (by omega) (by omega) (by rw [e]; simp only; omega) (by rw [e]; exact hp) (by rw [e]) (by rw [e]) (by rw [e]; exact len_mailG _ _) (by rw [e]; exact hq) (by rw [e]; exact h')
        exact ⟨k + 1, by rw [show r + (k + 1) = r + 1 + k from by omega]; exact hk⟩
  have h' := fwd_fresh hj hp (ffresh_of hj hp hf)
  cases hq : anyG (mailG j s)
  · refine ⟨1, ?_⟩
    show FEnd j s (nextG j s) 1
    rw [nextG_quiet hd hq, hp]
    exact ⟨by simp, by omega, by omega, rfl, hq, len_valsG _ _, len_mailG _ _, _, h'⟩
  · have e := nextG_go hd hq
    obtain ⟨k, hk⟩ := go _ 1 (nextG j s) rfl (by omega) (by rw [e]; simp) (by rw [e]; exact hp) (by rw [e]) (by rw [e]) (by rw [e]; exact len_mailG _ _) (by rw [e]; exact hq) (by rw [e]; exact h')
    exact ⟨k + 1, by rw [show k + 1 = 1 + k from by omega] at *; rw [Nat.add_comm 1 k]; rw [Nat.add_comm] at hk; exact hk⟩
/-- Whom the labels reach: along edges backwards, over vertices of one colour. -/
inductive Bk3 (j : Jb) (U : Nat → Prop) (col : Nat → Int) : Nat → Prop
  | root {v : Nat} : U v → v < j.n.toNat → col v = v → Bk3 j U col v
  | step {u v : Nat} {c : Int} : Bk3 j U col u → ((u : Int), (v : Int), c) ∈ arcs j 1 → U v → col v = col u → Bk3 j U col v
structure BInv (j : Jb) (U : Nat → Prop) (old : List Vl) (k : Nat) (vals : List Vl) (mail : List (List Int)) : Prop where
  col : ∀ v, v < j.n.toNat → (va vals v).a = (va old v).a
  keep : ∀ v, v < j.n.toNat → ¬ U v → va vals v = va old v
  lab : ∀ v, v < j.n.toNat → U v → (va vals v).l = -1 ∨ ((va vals v).l = (va old v).a ∧ Bk3 j U (fun v => (va old v).a) v)
  root : ∀ v, v < j.n.toNat → U v → (va old v).a = v → (va vals v).l ≠ -1
  arc : ∀ (u v : Nat) c, u < j.n.toNat → v < j.n.toNat → ((u : Int), (v : Int), c) ∈ arcs j 1 → U u → U v → (va vals u).l ≠ -1 → (va old v).a = (va old u).a → (va vals v).l ≠ -1 ∨ (va old u).a ∈ ml mail v
  mail : ∀ v m, v < j.n.toNat → m ∈ ml mail v → ∃ u c, u < j.n.toNat ∧ U u ∧ Bk3 j U (fun v => (va old v).a) u ∧ ((u : Int), (v : Int), c) ∈ arcs j 1 ∧ m = (va old u).a ∧ ∃ ch : List Nat, ch.Nodup ∧ ch.length = k ∧ ∀ x ∈ ch, x < j.n.toNat ∧ U x ∧ (va vals x).l ≠ -1
theorem arcs_zero {j : Jb} (hk : j.kind = 3) {phase u v c : Int} (h : (u, v, c) ∈ arcs j phase) : c = 0 := by
  obtain ⟨e, he, rfl, _⟩ := mem_arcs.1 h
  rw [if_neg (by rw [hk]; decide)]
/-- How a vertex wakes on the way back. -/
theorem woke_back {j : Jb} (hk : j.kind = 3) {s : Stt} {v : Nat} (hp : s.phase = 1) :
    ((va s.vals v).l ≠ -1 → wokeG j s v = (va s.vals v, false)) ∧
    ((va s.vals v).l = -1 → s.fresh = true → wokeG j s v = if (va s.vals v).a = v then (⟨(va s.vals v).a, (va s.vals v).a⟩, true) else (va s.vals v, false)) ∧
    ((va s.vals v).l = -1 → s.fresh = false → wokeG j s v = if (va s.vals v).a ∈ ml s.mail v then (⟨(va s.vals v).a, (va s.vals v).a⟩, true) else (va s.vals v, false)) := by
  refine ⟨fun h => ?_, fun h hf => ?_, fun h hf => ?_⟩
  · rw [woke_eq]
    split
    · rfl
    · rw [hk, wakeG_lab h]
  · rw [woke_eq, hf, hp, hk]
    simp [wakeG, h]
  · rw [woke_eq, hf, hp, hk]
    by_cases hm : (va s.vals v).a ∈ ml s.mail v
    · rw [if_pos hm, if_neg (by rintro ⟨_, e⟩; rw [e] at hm; cases hm)]
      have : (ml s.mail v).any (fun m => decide (m = (va s.vals v).a)) = true := by rw [List.any_eq_true]; exact ⟨_, hm, by simp⟩
      simp [wakeG, h, hm]
    · rw [if_neg hm]
      split
      · rfl
      · simp [wakeG, h, hm]

theorem back_fresh {j : Jb} (hk : j.kind = 3) {s : Stt} (hp : s.phase = 1) (hf : s.fresh = true) (h0 : ∀ v, v < j.n.toNat → (va s.vals v).l = -1 → (va s.vals v).a ≠ -1) :
    BInv j (UOf j s) s.vals 1 (valsG j s) (mailG j s) := by
  have UL : ∀ v, UOf j s v ↔ (va s.vals v).l = -1 := by
    intro v
    constructor
    · intro h; rcases h with h | h; exact absurd hk h; exact h
    · intro h; exact Or.inr h
  have W := fun v => woke_back (j := j) hk (s := s) (v := v) hp
  have SAID : ∀ v, (wokeG j s v).2 = true → (va s.vals v).l = -1 ∧ (va s.vals v).a = v ∧ (wokeG j s v).1 = ⟨(va s.vals v).a, (va s.vals v).a⟩ := by
    intro v hs
    by_cases hl : (va s.vals v).l = -1
    · have e := (W v).2.1 hl hf
      by_cases ha : (va s.vals v).a = v
      · rw [if_pos ha] at e; exact ⟨hl, ha, by rw [e]⟩
      · rw [if_neg ha] at e; rw [e] at hs; cases hs
    · rw [(W v).1 hl] at hs; cases hs
  refine ⟨?_, ?_, ?_, ?_, ?_, ?_⟩
  · intro v hv
    rw [va_valsG hv]
    by_cases hl : (va s.vals v).l = -1
    · rw [(W v).2.1 hl hf]; split <;> rfl
    · rw [(W v).1 hl]
  · intro v hv hU
    rw [va_valsG hv, (W v).1 (fun h => hU ((UL v).2 h))]
  · intro v hv hU
    rw [va_valsG hv, (W v).2.1 ((UL v).1 hU) hf]
    by_cases ha : (va s.vals v).a = v
    · rw [if_pos ha]; exact Or.inr ⟨rfl, Bk3.root hU hv ha⟩
    · rw [if_neg ha]; exact Or.inl ((UL v).1 hU)
  · intro v hv hU ha
    rw [va_valsG hv, (W v).2.1 ((UL v).1 hU) hf, if_pos ha]
    exact h0 v hv ((UL v).1 hU)
  · intro u v c hu hv hc hUu hUv hl hcol
    rw [va_valsG hu] at hl
    rw [va_valsG hv]
    have e := (W u).2.1 ((UL u).1 hUu) hf
    by_cases ha : (va s.vals u).a = u
    · rw [if_pos ha] at e
      right
      refine (mem_mlG hv).2 ⟨u, hu, by rw [e], c, by rw [hp]; exact hc, ?_⟩
      rw [e, arcs_zero hk hc]; simp
    · rw [if_neg ha] at e; rw [e] at hl; exact absurd ((UL u).1 hUu) hl
  · intro v m hv hm
    obtain ⟨u, hu, hs, c, hc, rfl⟩ := (mem_mlG hv).1 hm
    rw [hp] at hc
    obtain ⟨hl, ha, e⟩ := SAID u hs
    refine ⟨u, c, hu, (UL u).2 hl, Bk3.root ((UL u).2 hl) hu ha, hc, ?_, [u], by simp, rfl, ?_⟩
    · rw [e, arcs_zero hk hc]; simp
    · intro x hx
      simp at hx
      subst hx
      refine ⟨hu, (UL x).2 hl, ?_⟩
      rw [va_valsG hu, e]
      exact h0 x hu hl

theorem back_step {j : Jb} (hk : j.kind = 3) {U : Nat → Prop} {old : List Vl} {k : Nat} {s : Stt} (hp : s.phase = 1) (hf : s.fresh = false) (hU0 : ∀ v, U v ↔ (va old v).l = -1)
    (h0 : ∀ v, v < j.n.toNat → U v → (va old v).a ≠ -1) (h : BInv j U old k s.vals s.mail) :
    BInv j U old (k + 1) (valsG j s) (mailG j s) := by
  have W := fun v => woke_back (j := j) hk (s := s) (v := v) hp
  have nolab : ∀ v, v < j.n.toNat → ¬ U v → (va s.vals v).l ≠ -1 := by
    intro v hv hU hl
    rw [h.keep v hv hU] at hl
    exact hU ((hU0 v).2 hl)
  have SAID : ∀ v, v < j.n.toNat → (wokeG j s v).2 = true → U v ∧ (va s.vals v).l = -1 ∧ (va old v).a ∈ ml s.mail v ∧ (wokeG j s v).1 = ⟨(va old v).a, (va old v).a⟩ := by
    intro v hv hs
    by_cases hl : (va s.vals v).l = -1
    · have e := (W v).2.2 hl hf
      have hU : U v := by apply Classical.byContradiction; intro hn; exact nolab v hv hn hl
      by_cases ha : (va s.vals v).a ∈ ml s.mail v
      · rw [if_pos ha] at e
        rw [h.col v hv] at e ha
        exact ⟨hU, hl, ha, by rw [e]⟩
      · rw [if_neg ha] at e; rw [e] at hs; cases hs
    · rw [(W v).1 hl] at hs; cases hs
  have stay : ∀ v, v < j.n.toNat → (va s.vals v).l ≠ -1 → (wokeG j s v).1 = va s.vals v := fun v hv hl => by rw [(W v).1 hl]
  have BK : ∀ v, v < j.n.toNat → U v → (va old v).a ∈ ml s.mail v → Bk3 j U (fun v => (va old v).a) v := by
    intro v hv hU hm
    obtain ⟨u, c, hu, hUu, hB, hc, e, _⟩ := h.mail v _ hv hm
    exact Bk3.step hB hc hU e
  refine ⟨?_, ?_, ?_, ?_, ?_, ?_⟩
  · intro v hv
    rw [va_valsG hv, ← h.col v hv]
    by_cases hl : (va s.vals v).l = -1
    · rw [(W v).2.2 hl hf]; split <;> rfl
    · rw [(W v).1 hl]
  · intro v hv hU
    rw [va_valsG hv, stay v hv (nolab v hv hU)]
    exact h.keep v hv hU
  · intro v hv hU
    rw [va_valsG hv]
    by_cases hl : (va s.vals v).l = -1
    · rw [(W v).2.2 hl hf, h.col v hv]
      by_cases ha : (va old v).a ∈ ml s.mail v
      · rw [if_pos ha]; exact Or.inr ⟨rfl, BK v hv hU ha⟩
      · rw [if_neg ha]; exact Or.inl hl
    · rw [stay v hv hl]; exact h.lab v hv hU
  · intro v hv hU ha
    rw [va_valsG hv, stay v hv (h.root v hv hU ha)]
    exact h.root v hv hU ha
  · intro u v c hu hv hc hUu hUv hl hcol
    rw [va_valsG hu] at hl
    rw [va_valsG hv]
    by_cases hlu : (va s.vals u).l = -1
    · cases hs : (wokeG j s u).2
      · have e := (W u).2.2 hlu hf
        by_cases ha : (va s.vals u).a ∈ ml s.mail u
        · rw [if_pos ha] at e; rw [e] at hs; cases hs
        · rw [if_neg ha] at e; rw [e] at hl; exact absurd hlu hl
      · right
        have e := (SAID u hu hs).2.2.2
        refine (mem_mlG hv).2 ⟨u, hu, hs, c, by rw [hp]; exact hc, ?_⟩
        rw [e, arcs_zero hk hc]; simp
    · rcases h.arc u v c hu hv hc hUu hUv hlu hcol with g | g
      · left; rw [stay v hv g]; exact g
      · by_cases hlv : (va s.vals v).l = -1
        · left
          have e := (W v).2.2 hlv hf
          rw [h.col v hv, hcol, if_pos g] at e
          rw [e]
          exact h0 u hu hUu
        · left; rw [stay v hv hlv]; exact hlv
  · intro v m hv hm
    obtain ⟨u, hu, hs, c, hc, rfl⟩ := (mem_mlG hv).1 hm
    rw [hp] at hc
    obtain ⟨hUu, hl, ha, e⟩ := SAID u hu hs
    obtain ⟨_, _, _, _, _, _, _, ch, c1, c2, c3⟩ := h.mail u _ hu ha
    refine ⟨u, c, hu, hUu, BK u hu hUu ha, hc, ?_, u :: ch, ?_, by simp [c2], ?_⟩
    · rw [e, arcs_zero hk hc]; simp
    · rw [List.nodup_cons]
      exact ⟨fun hin => (c3 u hin).2.2 hl, c1⟩
    · intro x hx
      rcases List.mem_cons.1 hx with rfl | hx
      · refine ⟨hu, hUu, ?_⟩
        rw [va_valsG hu, e]
        exact h0 _ hu hUu
      · obtain ⟨x1, x2, x3⟩ := c3 x hx
        refine ⟨x1, x2, ?_⟩
        rw [va_valsG x1, stay x x1 x3]
        exact x3
theorem back_len {j : Jb} {U : Nat → Prop} {old : List Vl} {k : Nat} {vals : List Vl} {mail : List (List Int)} (hl : mail.length = j.n.toNat) (h : BInv j U old k vals mail) (ha : anyG mail = true) : k ≤ j.n.toNat := by
  obtain ⟨u, m, hm⟩ := (anyG_iff mail).1 ha
  have hu : u < j.n.toNat := by
    rw [← hl]
    apply Classical.byContradiction
    intro hn
    rw [List.getElem?_eq_none (by omega)] at hm
    simp at hm
  obtain ⟨_, _, _, _, _, _, _, ch, c1, rfl, c3⟩ := h.mail u m hu hm
  exact chain_short c1 (fun x hx => (c3 x hx).1)
theorem back_quiet {j : Jb} {U : Nat → Prop} (hj : GoodJ j) {old : List Vl} {k : Nat} {vals : List Vl} {mail : List (List Int)} (h : BInv j U old k vals mail) (ha : anyG mail = false) :
    ∀ v, Bk3 j U (fun v => (va old v).a) v → v < j.n.toNat ∧ U v ∧ (va vals v).l ≠ -1 := by
  have hno : ∀ u m, m ∉ ml mail u := by
    intro u m hm
    have : anyG mail = true := (anyG_iff mail).2 ⟨u, m, hm⟩
    rw [ha] at this; cases this
  intro v hB
  induction hB with
  | root hU hv hr => exact ⟨hv, hU, h.root _ hv hU hr⟩
  | @step u v c _ hc hU hcol ih =>
    obtain ⟨i1, i2, i3⟩ := ih
    have hr := arcs_range hj hc
    have hv : v < j.n.toNat := by omega
    refine ⟨hv, hU, ?_⟩
    rcases h.arc u v c i1 hv hc i2 hU i3 hcol with g | g
    · exact g
    · exact absurd g (hno v _)
/-- The end of a way back. -/
structure BEnd (j : Jb) (s s' : Stt) (k : Nat) : Prop where
  step : s'.step = s.step + k
  k0 : 1 ≤ k
  k1 : k ≤ j.n.toNat + 1
  flags : (s'.phase, s'.fresh, s'.done) = quietG j.kind 1 (openB s'.vals)
  no : anyG s'.mail = false
  vlen : s'.vals.length = j.n.toNat
  mlen : s'.mail.length = j.n.toNat
  inv : ∃ r, BInv j (UOf j s) s.vals r s'.vals s'.mail
theorem back_run {j : Jb} (hk : j.kind = 3) {s : Stt} (hp : s.phase = 1) (hf : s.fresh = true) (hd : s.done = false) (h0 : ∀ v, v < j.n.toNat → (va s.vals v).l = -1 → (va s.vals v).a ≠ -1) : ∃ k, BEnd j s (itG j k s) k := by
  have UL : ∀ v, UOf j s v ↔ (va s.vals v).l = -1 := by
    intro v
    constructor
    · intro h; rcases h with h | h; exact absurd hk h; exact h
    · intro h; exact Or.inr h
  have go : ∀ (m r : Nat) (t : Stt), j.n.toNat + 1 - r = m → 1 ≤ r → t.step = s.step + r → t.phase = 1 → t.fresh = false → t.done = false → t.mail.length = j.n.toNat → anyG t.mail = true → BInv j (UOf j s) s.vals r t.vals t.mail → ∃ k, BEnd j s (itG j k t) (r + k) := by
    intro m
    induction m with
    | zero =>
      intro r t hm _ _ _ _ _ hl ha h
      have := back_len hl h ha
      omega
    | succ m ih =>
      intro r t hm hr hs hp hf hd hl ha h
      have hlen := back_len hl h ha
      have h' := back_step hk hp hf UL (fun v hv hU => h0 v hv ((UL v).1 hU)) h
      cases hq : anyG (mailG j t)
      · refine ⟨1, ?_⟩
        show BEnd j s (nextG j t) (r + 1)
        rw [nextG_quiet hd hq, hp]
        exact ⟨by simp only; omega, by omega, by omega, rfl, hq, len_valsG _ _, len_mailG _ _, _, h'⟩
      · have e := nextG_go hd hq
        obtain ⟨k, hk⟩ := ih (r + 1) (nextG j t) (by omega) (by omega) (by rw [e]; simp only; omega) (by rw [e]; exact hp) (by rw [e]) (by rw [e]) (by rw [e]; exact len_mailG _ _) (by rw [e]; exact hq) (by rw [e]; exact h')
        exact ⟨k + 1, by rw [show r + (k + 1) = r + 1 + k from by omega]; exact hk⟩
  have h' := back_fresh hk hp hf h0
  cases hq : anyG (mailG j s)
  · refine ⟨1, ?_⟩
    show BEnd j s (nextG j s) 1
    rw [nextG_quiet hd hq, hp]
    exact ⟨by simp, by omega, by omega, rfl, hq, len_valsG _ _, len_mailG _ _, _, h'⟩
  · have e := nextG_go hd hq
    obtain ⟨k, hk⟩ := go _ 1 (nextG j s) rfl (by omega) (by rw [e]; simp) (by rw [e]; exact hp) (by rw [e]) (by rw [e]) (by rw [e]; exact len_mailG _ _) (by rw [e]; exact hq) (by rw [e]; exact h')
    refine ⟨k + 1, ?_⟩
    show BEnd j s (itG j k (nextG j s)) (k + 1)
    rw [Nat.add_comm k 1]; exact hk
def Eg (es : List Ed) (u v : Nat) : Prop := ∃ e ∈ es, e.f = (u : Int) ∧ e.t = (v : Int)
/-- One vertex reaches another one. -/
inductive Rc (es : List Ed) (u : Nat) : Nat → Prop
  | refl : Rc es u u
  | step {v w : Nat} : Rc es u v → Eg es v w → Rc es u w
theorem Rc.trans {es : List Ed} {u v w : Nat} (h : Rc es u v) (h' : Rc es v w) : Rc es u w := by
  induction h' with
  | refl => exact h
  | step _ he ih => exact Rc.step ih he
structure IsLeast (es : List Ed) (n v r : Nat) : Prop where
  lt : r < n
  to : Rc es r v
  fro : Rc es v r
  least : ∀ x, x < n → Rc es x v → Rc es v x → r ≤ x
structure SInv (j : Jb) (vals : List Vl) : Prop where
  least : ∀ v, v < j.n.toNat → (va vals v).l ≠ -1 → ∃ r : Nat, (va vals v).l = r ∧ IsLeast j.es j.n.toNat v r
  closed : ∀ u v, u < j.n.toNat → v < j.n.toNat → Rc j.es u v → Rc j.es v u → (va vals u).l ≠ -1 → (va vals v).l ≠ -1
theorem Eg.range {j : Jb} (hj : GoodJ j) {u v : Nat} (h : Eg j.es u v) : u < j.n.toNat ∧ v < j.n.toNat := by
  obtain ⟨e, he, h1, h2⟩ := h
  have := (checkG_zero hj.g).2.2.2 e he
  simp only [goodE, insB, Bool.and_eq_true, decide_eq_true_eq] at this
  omega
theorem arcs_f {j : Jb} (hk : j.kind = 3) {u v : Nat} {c : Int} : ((u : Int), (v : Int), c) ∈ arcs j 0 ↔ c = 0 ∧ Eg j.es u v := by
  rw [mem_arcs]
  simp only [outG, inG, hk]
  constructor
  · rintro ⟨e, he, hc, h⟩
    simp at h hc
    exact ⟨hc, e, he, h.1.symm, h.2.symm⟩
  · rintro ⟨rfl, e, he, h1, h2⟩
    exact ⟨e, he, by simp, Or.inl ⟨by simp, h1.symm, h2.symm⟩⟩
theorem arcs_b {j : Jb} (hk : j.kind = 3) {u v : Nat} {c : Int} : ((u : Int), (v : Int), c) ∈ arcs j 1 ↔ c = 0 ∧ Eg j.es v u := by
  rw [mem_arcs]
  simp only [outG, inG, hk]
  constructor
  · rintro ⟨e, he, hc, h⟩
    simp at h hc
    exact ⟨hc, e, he, h.2.symm, h.1.symm⟩
  · rintro ⟨rfl, e, he, h1, h2⟩
    exact ⟨e, he, by simp, Or.inr ⟨by simp, h2.symm, h1.symm⟩⟩
theorem initA3 {j : Jb} (hk : j.kind = 3) (v : Nat) : initA j v = some (v : Int) := by
  unfold initA; rw [if_neg (by rw [hk]; decide)]
theorem wt_from {j : Jb} (hj : GoodJ j) (hk : j.kind = 3) {U : Nat → Prop} {v : Nat} {a : Int} (h : Wt j U v a) : v < j.n.toNat ∧ U v ∧ ∃ w : Nat, a = w ∧ w < j.n.toNat ∧ U w ∧ Rc j.es w v := by
  induction h with
  | base hU hv hi =>
    rw [initA3 hk] at hi
    injection hi with hi
    exact ⟨hv, hU, _, hi.symm, hv, hU, Rc.refl⟩
  | step _ hc hU ih =>
    obtain ⟨_, _, w, rfl, h1, h2, h3⟩ := ih
    obtain ⟨rfl, he⟩ := (arcs_f hk).1 hc
    exact ⟨(he.range hj).2, hU, w, by simp, h1, h2, Rc.step h3 he⟩
/-- A number goes on along ways that come back. -/
theorem wt_on {j : Jb} (hj : GoodJ j) (hk : j.kind = 3) {vals : List Vl} (hS : SInv j vals) {U : Nat → Prop} (hU : ∀ v, v < j.n.toNat → (U v ↔ (va vals v).l = -1)) {y : Nat} {a : Int} (hW : Wt j U y a) :
    ∀ z, Rc j.es y z → Rc j.es z y → Wt j U z a := by
  obtain ⟨hy, hUy, _⟩ := wt_from hj hk hW
  intro z h
  induction h with
  | refl => intro _; exact hW
  | @step v w hv he ih =>
    intro hback
    have h1 := ih (Rc.trans (Rc.step Rc.refl he) hback)
    have hr := he.range hj
    have hUw : U w := by
      apply Classical.byContradiction
      intro hn
      have hl : (va vals w).l ≠ -1 := fun e => hn ((hU w hr.2).2 e)
      have := hS.closed w y hr.2 hy hback (Rc.step hv he) hl
      exact this ((hU y hy).1 hUy)
    have := Wt.step h1 ((arcs_f hk).2 ⟨rfl, he⟩) hUw
    simpa using this
def cntU (vals : List Vl) (n : Nat) : Nat := (List.range n).countP (fun v => decide ((va vals v).l = -1))
theorem countP_less {α : Type} {p q : α → Bool} : ∀ {l : List α}, (∀ x ∈ l, p x = true → q x = true) → (∃ x ∈ l, q x = true ∧ p x = false) → l.countP p < l.countP q
  | [], _, h => by obtain ⟨x, hx, _⟩ := h; cases hx
  | y :: l, h1, h2 => by
    have hle : l.countP p ≤ l.countP q := List.countP_mono_left fun x hx => h1 x (List.mem_cons_of_mem _ hx)
    rw [List.countP_cons, List.countP_cons]
    obtain ⟨x, hx, hq, hp⟩ := h2
    rcases List.mem_cons.1 hx with rfl | hx
    · rw [hq, hp]; simp; omega
    · have := countP_less (fun x hx => h1 x (List.mem_cons_of_mem _ hx)) ⟨x, hx, hq, hp⟩
      have := h1 y (List.mem_cons_self ..)
      cases hpy : p y
      · simp; omega
      · rw [this hpy]; simp; omega
theorem openB_iff {vals : List Vl} {n : Nat} (hl : vals.length = n) : openB vals = true ↔ ∃ v, v < n ∧ (va vals v).l = -1 := by
  unfold openB
  rw [List.any_eq_true]
  constructor
  · rintro ⟨x, hx, h⟩
    obtain ⟨v, hv⟩ := List.mem_iff_getElem?.1 hx
    refine ⟨v, by rw [← hl]; exact (List.getElem?_eq_some_iff.1 hv).1, ?_⟩
    unfold va; rw [hv]; simpa using h
  · rintro ⟨v, hv, h⟩
    rw [← hl] at hv
    refine ⟨vals[v], List.getElem_mem _, ?_⟩
    unfold va at h; rw [List.getElem?_eq_getElem hv] at h; simpa using h

structure Pair (j : Jb) (s t : Stt) (k : Nat) : Prop where
  step : t.step = s.step + k
  k0 : 1 ≤ k
  k1 : k ≤ 2 * j.n.toNat + 2
  flags : (t.phase, t.fresh, t.done) = quietG 3 1 (openB t.vals)
  no : anyG t.mail = false
  vlen : t.vals.length = j.n.toNat
  mlen : t.mail.length = j.n.toNat
  inv : SInv j t.vals
  stay : ∀ v, v < j.n.toNat → (va s.vals v).l ≠ -1 → (va t.vals v).l ≠ -1
  more : ∀ v, v < j.n.toNat → (va s.vals v).l = -1 → (∀ x, x < v → (va s.vals x).l ≠ -1) → (va t.vals v).l ≠ -1
theorem strong_pair {j : Jb} (hj : GoodJ j) (hk : j.kind = 3) {s : Stt} (hp : s.phase = 0) (hf : s.fresh = true) (hd : s.done = false) (hS : SInv j s.vals) : ∃ k, Pair j s (itG j k s) k := by
  obtain ⟨k1, F⟩ := fwd_run hj hp hf hd
  obtain ⟨r, FI⟩ := F.inv
  have fq := fwd_quiet hj FI F.no
  have hfl := F.flags
  rw [hk] at hfl
  simp only [quietG] at hfl
  simp at hfl
  obtain ⟨p1, f1, d1⟩ := hfl
  have fstep := F.step; have fk0 := F.k0; have fk1 := F.k1
  obtain ⟨s1, hs1⟩ : ∃ s1, s1 = itG j k1 s := ⟨_, rfl⟩
  rw [← hs1] at FI fq p1 f1 d1 fstep
  have UL : ∀ v, UOf j s v ↔ (va s.vals v).l = -1 := by
    intro v
    constructor
    · intro h; rcases h with h | h; exact absurd hk h; exact h
    · intro h; exact Or.inr h
  have UL1 : ∀ v, UOf j s1 v ↔ (va s1.vals v).l = -1 := by
    intro v
    constructor
    · intro h; rcases h with h | h; exact absurd hk h; exact h
    · intro h; exact Or.inr h
  have UU : ∀ v, v < j.n.toNat → (UOf j s1 v ↔ UOf j s v) := by
    intro v hv
    rw [UL1]
    constructor
    · intro h
      apply Classical.byContradiction
      intro hn
      rw [FI.keep v hv hn] at h
      exact hn ((UL v).2 h)
    · intro h; exact FI.lab v hv h
  have base : ∀ v, v < j.n.toNat → UOf j s v → Wt j (UOf j s) v v := fun v hv hU => Wt.base hU hv (initA3 hk v)
  have col : ∀ v, v < j.n.toNat → UOf j s v → ∃ w : Nat, (va s1.vals v).a = w ∧ w < j.n.toNat ∧ UOf j s w ∧ Rc j.es w v ∧ Wt j (UOf j s) v w := by
    intro v hv hU
    have h1 := (fq v hv hU).2 _ (base v hv hU)
    have h2 := (fq v hv hU).1.resolve_left h1.1
    obtain ⟨_, _, w, e, g1, g2, g3⟩ := wt_from hj hk h2
    exact ⟨w, e, g1, g2, g3, by rw [← e]; exact h2⟩
  have colle : ∀ v a, v < j.n.toNat → UOf j s v → Wt j (UOf j s) v a → (va s1.vals v).a ≤ a := fun v a hv hU h => ((fq v hv hU).2 a h).2
  have h0 : ∀ v, v < j.n.toNat → (va s1.vals v).l = -1 → (va s1.vals v).a ≠ -1 := by
    intro v hv hl
    obtain ⟨w, e, _⟩ := col v hv ((UU v hv).1 ((UL1 v).2 hl))
    rw [e]; omega
  obtain ⟨k2, B⟩ := back_run hk p1 f1 d1 h0
  obtain ⟨r2, BI⟩ := B.inv
  have bq := back_quiet hj BI B.no
  have bstep := B.step; have bk0 := B.k0; have bk1 := B.k1; have bfl := B.flags; have bno := B.no; have bv := B.vlen; have bm := B.mlen
  refine ⟨k1 + k2, ?_⟩
  rw [itG_add, ← hs1]
  obtain ⟨t, ht⟩ : ∃ t, t = itG j k2 s1 := ⟨_, rfl⟩
  rw [← ht] at BI bq bstep bfl bno bv bm ⊢
  rw [hk] at bfl
  -- whom the labels reach has its least
  have root : ∀ v, Bk3 j (UOf j s1) (fun v => (va s1.vals v).a) v → ∃ w : Nat, w < j.n.toNat ∧ UOf j s w ∧ (va s1.vals v).a = w ∧ (va s1.vals w).a = w ∧ Rc j.es v w ∧ Bk3 j (UOf j s1) (fun v => (va s1.vals v).a) w := by
    intro v hB
    induction hB with
    | root hU hv hr => exact ⟨_, hv, (UU _ hv).1 hU, hr, hr, Rc.refl, Bk3.root hU hv hr⟩
    | step _ hc hU hcol ih =>
      obtain ⟨w, i1, i2, i3, i4, i5, i6⟩ := ih
      obtain ⟨rfl, he⟩ := (arcs_b hk).1 hc
      exact ⟨w, i1, i2, hcol.trans i3, i4, (Rc.step Rc.refl he).trans i5, i6⟩
  have mutU : ∀ u v, u < j.n.toNat → v < j.n.toNat → Rc j.es u v → Rc j.es v u → UOf j s u → UOf j s v := by
    intro u v hu hv h1 h2 hU
    apply Classical.byContradiction
    intro hn
    exact hS.closed v u hv hu h2 h1 (fun e => hn ((UL v).2 e)) ((UL u).1 hU)
  have least : ∀ v, v < j.n.toNat → Bk3 j (UOf j s1) (fun v => (va s1.vals v).a) v → ∃ r : Nat, (va s1.vals v).a = r ∧ IsLeast j.es j.n.toNat v r := by
    intro v hv hB
    have hU := (UU v hv).1 (bq v hB).2.1
    obtain ⟨w, i1, i2, i3, i4, i5, _⟩ := root v hB
    obtain ⟨w', e, g1, g2, g3, g4⟩ := col v hv hU
    have : w' = w := by omega
    subst this
    refine ⟨w', i3, i1, g3, i5, fun x hx h1 h2 => ?_⟩
    have hUx := mutU v x hv hx h2 h1 hU
    have := colle v x hv hU (wt_on hj hk hS (fun v _ => UL v) (base x hx hUx) v h1 h2)
    omega
  refine ⟨by omega, by omega, by omega, bfl, bno, bv, bm, ⟨?_, ?_⟩, ?_, ?_⟩
  · intro v hv hl
    by_cases hU : UOf j s1 v
    · rcases BI.lab v hv hU with g | ⟨g1, g2⟩
      · exact absurd g hl
      · rw [g1]; exact least v hv g2
    · rw [BI.keep v hv hU, FI.keep v hv (fun h => hU ((UU v hv).2 h))] at hl ⊢
      exact hS.least v hv hl
  · intro u v hu hv h1 h2 hl
    by_cases hU : UOf j s1 u
    · rcases BI.lab u hu hU with g | ⟨g1, g2⟩
      · exact absurd g hl
      · have hUu := (UU u hu).1 hU
        obtain ⟨w, i1, i2, i3, i4, i5, i6⟩ := root u g2
        obtain ⟨w', e', _, _, g3', _⟩ := col u hu hUu
        have : w' = w := by omega
        subst this
        -- all that are joined with w' both ways have its colour
        have same : ∀ y, y < j.n.toNat → Rc j.es y w' → Rc j.es w' y → UOf j s y ∧ (va s1.vals y).a = w' := by
          intro y hy m1 m2
          have hUy := mutU w' y i1 hy m2 m1 i2
          refine ⟨hUy, ?_⟩
          have le1 := colle y w' hy hUy (wt_on hj hk hS (fun v _ => UL v) (base w' i1 i2) y m2 m1)
          obtain ⟨z, ez, z1, z2, z3, z4⟩ := col y hy hUy
          have le2 := colle w' z i1 i2 (wt_on hj hk hS (fun v _ => UL v) z4 w' m1 m2)
          omega
        have reach : ∀ y z, Rc j.es y z → Rc j.es z w' → Rc j.es w' y → y < j.n.toNat → Bk3 j (UOf j s1) (fun v => (va s1.vals v).a) z → Bk3 j (UOf j s1) (fun v => (va s1.vals v).a) y := by
          intro y z h
          induction h with
          | refl => intro _ _ _ hB; exact hB
          | @step v z hv he ih =>
            intro m1 m2 hy hB
            have hr := he.range hj
            have s1' := same v hr.1 ((Rc.step Rc.refl he).trans m1) (m2.trans hv)
            have s2' := same z hr.2 m1 (m2.trans (Rc.step hv he))
            exact ih ((Rc.step Rc.refl he).trans m1) m2 hy (Bk3.step hB ((arcs_b hk).2 ⟨rfl, he⟩) ((UU v hr.1).2 s1'.1) (s1'.2.trans s2'.2.symm))
        exact (bq v (reach v w' (h2.trans i5) Rc.refl (g3'.trans h1) hv i6)).2.2
    · rw [BI.keep u hu hU, FI.keep u hu (fun h => hU ((UU u hu).2 h))] at hl
      have hl' := hS.closed u v hu hv h1 h2 hl
      have hn : ¬ UOf j s v := fun h => hl' ((UL v).1 h)
      rw [BI.keep v hv (fun h => hn ((UU v hv).1 h)), FI.keep v hv hn]
      exact hl'
  · intro v hv hl
    have hn : ¬ UOf j s v := fun h => hl ((UL v).1 h)
    rw [BI.keep v hv (fun h => hn ((UU v hv).1 h)), FI.keep v hv hn]
    exact hl
  · intro v hv hl hlow
    have hU := (UL v).2 hl
    obtain ⟨w, e, g1, g2, g3, g4⟩ := col v hv hU
    have le := colle v v hv hU (base v hv hU)
    have : v ≤ w := by
      apply Classical.byContradiction
      intro hn
      exact hlow w (by omega) ((UL w).1 g2)
    exact (bq v (Bk3.root ((UU v hv).2 hU) hv (by omega))).2.2
theorem least_open {vals : List Vl} {n : Nat} (h : ∃ v, v < n ∧ (va vals v).l = -1) : ∃ v, v < n ∧ (va vals v).l = -1 ∧ ∀ x, x < v → (va vals x).l ≠ -1 := by
  obtain ⟨v, hv, hl⟩ := h
  induction v using Nat.strongRecOn with
  | ind v ih =>
    by_cases hx : ∃ x, x < v ∧ (va vals x).l = -1
    · obtain ⟨x, h1, h2⟩ := hx
      exact ih x h1 (by omega) h2
    · exact ⟨v, hv, hl, fun x hxv e => hx ⟨x, hxv, e⟩⟩
/-- The end of the strong job. -/
structure SEnd (j : Jb) (s t : Stt) (k : Nat) : Prop where
  step : t.step = s.step + k
  done : t.done = true
  vlen : t.vals.length = j.n.toNat
  inv : ∀ v, v < j.n.toNat → ∃ r : Nat, (va t.vals v).l = r ∧ IsLeast j.es j.n.toNat v r
theorem strong_run {j : Jb} (hj : GoodJ j) (hk : j.kind = 3) : ∀ (m : Nat) {s : Stt}, cntU s.vals j.n.toNat = m → s.phase = 0 → s.fresh = true → s.done = false → SInv j s.vals → s.vals.length = j.n.toNat → openB s.vals = true → ∃ k, 1 ≤ k ∧ k ≤ m * (2 * j.n.toNat + 2) ∧ SEnd j s (itG j k s) k := by
  intro m
  induction m using Nat.strongRecOn with
  | ind m ih =>
    intro s hm hp hf hd hS hl ho
    obtain ⟨k1, P⟩ := strong_pair hj hk hp hf hd hS
    obtain ⟨v0, a1, a2, a3⟩ := least_open ((openB_iff hl).1 ho)
    have less : cntU (itG j k1 s).vals j.n.toNat < m := by
      rw [← hm]
      refine countP_less (fun x hx h => ?_) ⟨v0, List.mem_range.2 a1, by simpa using a2, by simpa using P.more v0 a1 a2 a3⟩
      have hx' := List.mem_range.1 hx
      simp at h ⊢
      apply Classical.byContradiction
      intro hn
      exact P.stay x hx' hn h
    have hfl := P.flags
    have k0 := P.k0; have k1' := P.k1; have st := P.step
    have cm : cntU (itG j k1 s).vals j.n.toNat * (2 * j.n.toNat + 2) + (2 * j.n.toNat + 2) ≤ m * (2 * j.n.toNat + 2) := by
      rw [← Nat.succ_mul]; exact Nat.mul_le_mul_right _ less
    cases hop : openB (itG j k1 s).vals
    · rw [hop] at hfl
      simp [quietG] at hfl
      refine ⟨k1, k0, by omega, st, hfl.2.2, P.vlen, fun v hv => ?_⟩
      have : (va (itG j k1 s).vals v).l ≠ -1 := by
        intro e
        have := (openB_iff P.vlen).2 ⟨v, hv, e⟩
        rw [hop] at this; cases this
      exact P.inv.least v hv this
    · rw [hop] at hfl
      simp [quietG] at hfl
      obtain ⟨k2, b1, b2, E⟩ := ih _ less rfl hfl.1 hfl.2.1 hfl.2.2 P.inv P.vlen hop
      refine ⟨k1 + k2, by omega, by omega, ?_⟩
      rw [itG_add]
      exact ⟨by rw [E.step, st]; omega, E.done, E.vlen, E.inv⟩
end Go.Proofs.Ytbholafggbdieaa
