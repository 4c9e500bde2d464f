/- Rounds in plain lists: what is reached stays good. No program in sight. -/
import Derived.Test.YtbholafggbdieaaRoundPlain
namespace Go.Proofs.Ytbholafggbdieaa
theorem arcs_kind {j : Jb} {phase u v c : Int} (h : (u, v, c) ∈ arcs j phase) : j.kind = 1 → ∃ e ∈ j.es, c = e.g := by
  intro hk
  obtain ⟨e, he, hc, _⟩ := mem_arcs.1 h
  rw [if_pos hk] at hc
  exact ⟨e, he, hc⟩
theorem arcs_none {j : Jb} {phase u v c : Int} (hk : j.kind ≠ 1) (h : (u, v, c) ∈ arcs j phase) : c = 0 := by
  obtain ⟨e, he, hc, _⟩ := mem_arcs.1 h
  rw [if_neg hk] at hc
  exact hc
theorem valB_iff {kind : Int} {x : Vl} : valB kind x = true ↔ -1 ≤ x.a ∧ x.a ≤ topG kind ∧ -1 ≤ x.l ∧ x.l < 200 := by
  simp [valB]
theorem lowG_cases (old : Vl) (mail : List Int) (h0 : ∀ m ∈ mail, 0 ≤ m) : ((lowG old mail).2 = false ∧ (lowG old mail).1 = old) ∨ ((lowG old mail).2 = true ∧ (lowG old mail).1.a ∈ mail ∧ (lowG old mail).1.l = old.l) := by
  obtain ⟨h1, h2, h3⟩ := lowG_spec old mail h0
  cases hs : (lowG old mail).2
  · exact Or.inl ⟨rfl, (h2 hs).1⟩
  · exact Or.inr ⟨rfl, (h3 hs).1, h1⟩
/-- What a vertex becomes is a value again; who speaks has a number. -/
theorem wakeG_val {kind v src : Int} {old : Vl} {phase : Int} {fresh : Bool} {mail : List Int} (hk : kind = 1 ∨ kind = 2 ∨ kind = 3) (hv0 : 0 ≤ v) (hv1 : v < 200) (hold : valB kind old = true) (hm : ∀ m ∈ mail, 0 ≤ m ∧ m ≤ topG kind) :
    valB kind (wakeG kind v src old phase fresh mail).1 = true ∧ ((wakeG kind v src old phase fresh mail).2 = true → 0 ≤ (wakeG kind v src old phase fresh mail).1.a) := by
  obtain ⟨o0, o1, o2, o3⟩ := valB_iff.1 hold
  have low : valB kind (lowG old mail).1 = true ∧ ((lowG old mail).2 = true → 0 ≤ (lowG old mail).1.a) := by
    rcases lowG_cases old mail (fun m h => (hm m h).1) with ⟨h1, h2⟩ | ⟨h1, h2, h3⟩
    · rw [h1, h2]; exact ⟨hold, fun h => by cases h⟩
    · have := hm _ h2
      exact ⟨valB_iff.2 ⟨by omega, this.2, by omega, by omega⟩, fun _ => this.1⟩
  rcases hk with rfl | rfl | rfl
  · show valB 1 (if fresh = true then (⟨if v = src then 0 else -1, -1⟩, decide (v = src)) else lowG old mail).1 = true ∧ ((if fresh = true then ((⟨if v = src then 0 else -1, -1⟩ : Vl), decide (v = src)) else lowG old mail).2 = true → 0 ≤ (if fresh = true then ((⟨if v = src then 0 else -1, -1⟩ : Vl), decide (v = src)) else lowG old mail).1.a)
    cases fresh
    · exact low
    · by_cases hs : v = src
      · simp [hs, valB, topG]
      · simp [hs, valB, topG]
  · show valB 2 (if fresh = true then (⟨v, -1⟩, true) else lowG old mail).1 = true ∧ ((if fresh = true then ((⟨v, -1⟩ : Vl), true) else lowG old mail).2 = true → 0 ≤ (if fresh = true then ((⟨v, -1⟩ : Vl), true) else lowG old mail).1.a)
    cases fresh
    · exact low
    · simp [valB, topG]; omega
  · by_cases hl : old.l = -1
    · by_cases hp : phase = 0
      · cases fresh
        · have e : wakeG 3 v src old phase false mail = lowG old mail := by simp [wakeG, hl, hp]
          rw [e]; exact low
        · have e : wakeG 3 v src old phase true mail = (⟨v, -1⟩, true) := by simp [wakeG, hl, hp]
          rw [e]; simp [valB, topG]; omega
      · have top3 : topG 3 = 199 := rfl
        cases fresh
        · have e : wakeG 3 v src old phase false mail = if mail.any (fun m => decide (m = old.a)) then (⟨old.a, old.a⟩, true) else (old, false) := by simp [wakeG, hl, hp]
          rw [e]
          cases hany : mail.any (fun m => decide (m = old.a))
          · exact ⟨hold, fun h => by cases h⟩
          · obtain ⟨m, h1, h2⟩ := List.any_eq_true.1 hany
            simp at h2
            have := hm m h1
            exact ⟨valB_iff.2 ⟨by simp only [if_true]; omega, by simp only [if_true]; omega, by simp only [if_true]; omega, by simp only [if_true]; omega⟩, fun _ => by simp only [if_true]; omega⟩
        · have e : wakeG 3 v src old phase true mail = if old.a = v then (⟨old.a, old.a⟩, true) else (old, false) := by simp [wakeG, hl, hp]
          rw [e]
          by_cases ha : old.a = v
          · rw [if_pos ha]; exact ⟨valB_iff.2 ⟨by simp only; omega, by simp only; omega, by simp only; omega, by simp only; omega⟩, fun _ => by simp only; omega⟩
          · rw [if_neg ha]; exact ⟨hold, fun h => by cases h⟩
    · rw [wakeG_lab hl]; exact ⟨hold, fun h => by cases h⟩
theorem woke_val {j : Jb} (hj : GoodJ j) {s : Stt} (hs : GoodS j s) {v : Nat} (hv : v < j.n.toNat) :
    valB j.kind (wokeG j s v).1 = true ∧ ((wokeG j s v).2 = true → 0 ≤ (wokeG j s v).1.a) := by
  have hn := hj.top
  have hvl : v < s.vals.length := by have := hs.vlen; omega
  have hml : v < s.mail.length := by have := hs.mlen; omega
  have ev : s.vals[v]?.getD ⟨-1, -1⟩ = s.vals[v] := by rw [List.getElem?_eq_getElem hvl]; rfl
  have em : s.mail[v]?.getD [] = s.mail[v] := by rw [List.getElem?_eq_getElem hml]; rfl
  unfold wokeG
  rw [ev, em]
  have h1 := hs.val _ (List.getElem_mem hvl)
  split
  · exact ⟨h1, fun h => by cases h⟩
  · exact wakeG_val hj.kind (by omega) (by omega) h1 (hs.range _ (List.getElem_mem hml))
theorem msgV_len (j : Jb) (s : Stt) (v : Nat) : (msgV j s v).length ≤ 2 * j.es.length := by
  unfold msgV
  split
  · have : ∀ l : List Ed, (sayV j.kind s.phase v (wokeG j s v).1 l).length ≤ 2 * l.length := by
      intro l
      induction l with
      | nil => simp [sayV]
      | cons e l ih =>
        unfold sayV at ih ⊢
        rw [List.flatMap_cons, List.length_append, List.length_cons]
        have : (lineG j.kind s.phase v (wokeG j s v).1 e).length ≤ 2 := by unfold lineG; rw [List.length_append]; split <;> split <;> simp
        omega
    exact this _
  · simp
theorem msgs_len (j : Jb) (s : Stt) : ∀ k, (msgsG j s k).length ≤ k * (2 * j.es.length)
  | 0 => by simp [msgsG]
  | k + 1 => by
    have ih := msgs_len j s k
    have := msgV_len j s k
    unfold msgsG at ih ⊢
    rw [List.range_succ, List.flatMap_append, List.length_append, Nat.succ_mul, List.flatMap_cons, List.flatMap_nil, List.append_nil]
    omega
theorem msgs_range {j : Jb} (hj : GoodJ j) {s : Stt} {k : Nat} : ∀ m ∈ msgsG j s k, 0 ≤ m.1 ∧ m.1 < j.n := by
  rintro ⟨u, m⟩ h
  obtain ⟨v, _, _, c, hc, _⟩ := mem_msgs.1 h
  have := arcs_range hj hc
  exact ⟨this.2.2.1, this.2.2.2.1⟩
theorem sum_map_add {α : Type} (f g : α → Nat) : ∀ l : List α, (l.map fun x => f x + g x).sum = (l.map f).sum + (l.map g).sum
  | [] => rfl
  | x :: l => by rw [List.map_cons, List.map_cons, List.map_cons, List.sum_cons, List.sum_cons, List.sum_cons, sum_map_add f g l]; omega
theorem sum_one (n u : Nat) : ((List.range n).map fun x => if u = x then 1 else 0).sum = if u < n then 1 else 0 := by
  induction n with
  | zero => simp
  | succ n ih =>
    rw [List.range_succ, List.map_append, List.sum_append, ih]
    simp only [List.map_cons, List.map_nil, List.sum_cons, List.sum_nil]
    by_cases h : u < n
    · rw [if_pos h, if_neg (by omega), if_pos (by omega)]; rfl
    · by_cases h2 : u = n
      · rw [if_neg h, if_pos h2, if_pos (by omega)]; rfl
      · rw [if_neg h, if_neg h2, if_neg (by omega)]; rfl
/-- Each piece of mail lies in one row. -/
theorem total_raw (j : Jb) : ∀ ms : List (Int × Int), (∀ m ∈ ms, 0 ≤ m.1 ∧ m.1 < j.n) → total (rawG j ms) = ms.length
  | [], _ => by
    unfold total rawG
    rw [List.map_map]
    have : (List.length ∘ boxG []) = fun _ => 0 := by funext u; simp [boxG]
    rw [this]
    generalize List.range j.n.toNat = l
    induction l with
    | nil => rfl
    | cons x l ih => rw [List.map_cons, List.sum_cons, ih]; rfl
  | m :: ms, h => by
    have ih := total_raw j ms (fun x hx => h x (List.mem_cons_of_mem _ hx))
    obtain ⟨h0, h1⟩ := h m (List.mem_cons_self ..)
    unfold total rawG at ih ⊢
    rw [List.map_map] at ih ⊢
    have e : (List.length ∘ boxG (m :: ms)) = fun u => (if m.1.toNat = u then 1 else 0) + (List.length ∘ boxG ms) u := by
      funext u
      simp only [Function.comp, boxG, List.filter_cons]
      by_cases hu : m.1 = (u : Int)
      · rw [if_pos (by simpa using hu), if_pos (by omega)]; simp; omega
      · rw [if_neg (by simpa using hu), if_neg (by omega)]; simp
    rw [e, sum_map_add, sum_one, ih, if_pos (by omega), List.length_cons]
    omega
theorem total_sort (l : List (List Int)) : total (l.map sortG) = total l := by
  unfold total
  rw [List.map_map]
  congr 1
  apply List.map_congr_left
  intro x _
  exact sortG_len x
theorem total_mailG {j : Jb} (hj : GoodJ j) (s : Stt) : total (mailG j s) = (msgsG j s j.n.toNat).length := by
  unfold mailG; rw [total_sort, total_raw j _ (msgs_range hj)]
theorem total_any {l : List (List Int)} : anyG l = false ↔ total l = 0 := by
  unfold anyG total
  induction l with
  | nil => simp
  | cons x l ih =>
    rw [List.any_cons, List.map_cons, List.sum_cons]
    cases x with
    | nil => simpa using ih
    | cons a x => simp
/-- A state behind a good one is good. -/
theorem good_next {j : Jb} (hj : GoodJ j) {s : Stt} (hs : GoodS j s) (hst : s.step < 100000) (hsm : j.n.toNat * (2 * j.es.length) ≤ 4000)
    (hsum : j.kind = 1 → ∀ v, v < j.n.toNat → ∀ e ∈ j.es, (wokeG j s v).1.a + e.g ≤ 4398046511104) : GoodS j (nextG j s) := by
  cases hd : s.done
  case true => unfold nextG; rw [hd]; exact hs
  have h0 := hj.n0
  have vm : ∀ x ∈ valsG j s, valB j.kind x = true := by
    intro x hx
    obtain ⟨v, hv⟩ := List.mem_iff_getElem?.1 hx
    rw [valsG_at] at hv
    split at hv
    · injection hv with hv; rw [← hv]; exact (woke_val hj hs ‹_›).1
    · cases hv
  have srt : ∀ l ∈ mailG j s, l.Pairwise (· ≤ ·) := by
    intro l hl
    obtain ⟨r, _, rfl⟩ := List.mem_map.1 hl
    exact sortG_sorted r
  have rng : ∀ l ∈ mailG j s, ∀ m ∈ l, 0 ≤ m ∧ m ≤ topG j.kind := by
    intro l hl m hm
    obtain ⟨u, hu⟩ := List.mem_iff_getElem?.1 hl
    have hu' : u < j.n.toNat := by rw [← len_mailG j s]; exact (List.getElem?_eq_some_iff.1 hu).1
    have : m ∈ (mailG j s)[u]?.getD [] := by rw [hu]; exact hm
    obtain ⟨v, hv, hsaid, c, hc, rfl⟩ := (mem_mailG hu').1 this
    obtain ⟨w1, w2⟩ := woke_val hj hs hv
    have w2 := w2 hsaid
    have r := arcs_range hj hc
    obtain ⟨_, w3, _⟩ := valB_iff.1 w1
    by_cases hk : j.kind = 1
    · obtain ⟨e, he, rfl⟩ := arcs_kind hc hk
      have := hsum hk v hv e he
      refine ⟨by omega, ?_⟩
      rw [topG, if_pos hk]
      exact this
    · rw [arcs_none hk hc]; omega
  have few : total (mailG j s) ≤ 5000 := by
    rw [total_mailG hj]
    have := msgs_len j s j.n.toNat
    omega
  have vl : ((valsG j s).length : Int) = j.n := by rw [len_valsG]; omega
  have ml' : ((mailG j s).length : Int) = j.n := by rw [len_mailG]; omega
  have st0 := hs.step0
  cases ha : anyG (mailG j s)
  · rw [nextG_quiet hd ha]
    have tz := total_any.1 ha
    have hq : ((quietG j.kind s.phase (openB (valsG j s))).2.1 && (quietG j.kind s.phase (openB (valsG j s))).2.2) = false := by
      unfold quietG; split
      · rfl
      · split
        · rfl
        · split <;> rfl
    have hp : (quietG j.kind s.phase (openB (valsG j s))).1 = 0 ∨ ((quietG j.kind s.phase (openB (valsG j s))).1 = 1 ∧ j.kind = 3) := by
      have := hs.phase
      unfold quietG; split
      · rename_i hk
        rcases this with h | h
        · exact Or.inl h
        · exact absurd h.2 hk
      · rename_i hk
        have hk : j.kind = 3 := by simpa using hk
        split
        · exact Or.inr ⟨rfl, hk⟩
        · split
          · exact Or.inl rfl
          · exact this
    exact ⟨by simp only; omega, by simp only; omega, vl, ml', hq, hp, vm, srt, rng, few, Or.inl tz⟩
  · rw [nextG_go hd ha]
    exact ⟨by simp only; omega, by simp only; omega, vl, ml', rfl, hs.phase, vm, srt, rng, few, Or.inr ⟨rfl, rfl⟩⟩

/-- A job as small as they are here. -/
structure SmallJ (j : Jb) : Prop where
  few : j.n.toNat * (2 * j.es.length) ≤ 4000
  light : ∀ e ∈ j.es, e.g < 10
/-- What is reached: good, and no number above ten a round. -/
structure Ok (j : Jb) (s : Stt) : Prop where
  good : GoodS j s
  vlow : j.kind = 1 → ∀ x ∈ s.vals, x.a ≤ 10 * s.step
  mlow : j.kind = 1 → ∀ l ∈ s.mail, ∀ m ∈ l, m ≤ 10 * s.step
theorem ok_woke {j : Jb} {s : Stt} (h : Ok j s) (hk : j.kind = 1) {v : Nat} (hv : v < j.n.toNat) : (wokeG j s v).1.a ≤ 10 * s.step := by
  have hs := h.good
  have hvl : v < s.vals.length := by have := hs.vlen; omega
  have hml : v < s.mail.length := by have := hs.mlen; omega
  have st := hs.step0
  have ev : s.vals[v]?.getD ⟨-1, -1⟩ = s.vals[v] := by rw [List.getElem?_eq_getElem hvl]; rfl
  have em : s.mail[v]?.getD [] = s.mail[v] := by rw [List.getElem?_eq_getElem hml]; rfl
  have h1 := h.vlow hk _ (List.getElem_mem hvl)
  unfold wokeG
  rw [ev, em]
  split
  · exact h1
  · rw [hk]
    show (if s.fresh = true then ((⟨if (v : Int) = j.src then 0 else -1, -1⟩ : Vl), decide ((v : Int) = j.src)) else lowG s.vals[v] s.mail[v]).1.a ≤ 10 * s.step
    cases s.fresh
    · rcases lowG_cases s.vals[v] s.mail[v] (fun m hm => (hs.range _ (List.getElem_mem hml) m hm).1) with ⟨_, g⟩ | ⟨_, g, _⟩
      · simp only [Bool.false_eq_true, if_false]; rw [g]; exact h1
      · simp only [Bool.false_eq_true, if_false]; exact h.mlow hk _ (List.getElem_mem hml) _ g
    · by_cases hsr : (v : Int) = j.src
      · simp [hsr]; omega
      · simp [hsr]; omega
theorem ok_sum {j : Jb} (hm : SmallJ j) {s : Stt} (h : Ok j s) : j.kind = 1 → ∀ v, v < j.n.toNat → ∀ e ∈ j.es, (wokeG j s v).1.a + e.g ≤ 4398046511104 := by
  intro hk v hv e he
  have h1 := ok_woke h hk hv
  have h2 := hm.light e he
  have := h.good.step1
  omega
theorem ok_next {j : Jb} (hj : GoodJ j) (hm : SmallJ j) {s : Stt} (h : Ok j s) (hst : s.step < 100000) : Ok j (nextG j s) := by
  cases hd : s.done
  case true => unfold nextG; rw [hd]; exact h
  have g := good_next hj h.good hst hm.few (ok_sum hm h)
  have key : j.kind = 1 → (∀ x ∈ valsG j s, x.a ≤ 10 * (s.step + 1)) ∧ ∀ l ∈ mailG j s, ∀ m ∈ l, m ≤ 10 * (s.step + 1) := by
    intro hk
    refine ⟨fun x hx => ?_, fun l hl m hm' => ?_⟩
    · obtain ⟨v, hv⟩ := List.mem_iff_getElem?.1 hx
      rw [valsG_at] at hv
      split at hv
      · injection hv with hv; rw [← hv]; have := ok_woke h hk ‹_›; omega
      · cases hv
    · obtain ⟨u, hu⟩ := List.mem_iff_getElem?.1 hl
      have hu' : u < j.n.toNat := by rw [← len_mailG j s]; exact (List.getElem?_eq_some_iff.1 hu).1
      have : m ∈ (mailG j s)[u]?.getD [] := by rw [hu]; exact hm'
      obtain ⟨v, hv, _, c, hc, rfl⟩ := (mem_mailG hu').1 this
      obtain ⟨e, he, rfl⟩ := arcs_kind hc hk
      have := ok_woke h hk hv
      have := hm.light e he
      omega
  cases ha : anyG (mailG j s)
  · have e := nextG_quiet hd ha
    exact ⟨g, fun hk => by rw [e]; exact (key hk).1, fun hk => by rw [e]; exact (key hk).2⟩
  · have e := nextG_go hd ha
    exact ⟨g, fun hk => by rw [e]; exact (key hk).1, fun hk => by rw [e]; exact (key hk).2⟩
theorem ok_begin {j : Jb} (hj : GoodJ j) : Ok j (beginG j) := by
  have h0 := hj.n0
  unfold beginG
  refine ⟨⟨by simp, by simp, by simp; omega, by simp; omega, rfl, Or.inl rfl, ?_, ?_, ?_, ?_, ?_⟩, ?_, ?_⟩
  · intro x hx; rw [(List.mem_replicate.1 hx).2]; unfold valB topG; split <;> decide
  · intro l hl; rw [(List.mem_replicate.1 hl).2]; exact List.Pairwise.nil
  · intro l hl m hm; rw [(List.mem_replicate.1 hl).2] at hm; cases hm
  · simp [total]
  · left; simp [total]
  · intro _ x hx; rw [(List.mem_replicate.1 hx).2]; simp
  · intro _ l hl m hm; rw [(List.mem_replicate.1 hl).2] at hm; cases hm
end Go.Proofs.Ytbholafggbdieaa
