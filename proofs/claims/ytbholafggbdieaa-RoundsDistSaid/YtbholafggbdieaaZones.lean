/- Regions that draw their order: what only reads is taken first, many operations at once; operations of zs may write what is read. No program in sight. -/
import Derived.Test.YtbholafggbdieaaRegionZ
import Derived.Deep.RegionHeld3
namespace Go.Proofs.Ytbholafggbdieaa
open Go Go.RowKit
variable {P : Program}
section
variable {ops : Array Oper} {Q : Exit → Act → World → Prop} {md : Region.Mode} {S : World → Prop} {zs : List Nat}
/-- S holds behind every operation but those of zs, which wait for all that is taken first. -/
def wpZ (P : Program) (md : Region.Mode) (ops : Array Oper) (Q : Exit → Act → World → Prop) (S : World → Prop) (zs : List Nat) : Nat → Array Bool → Act → World → Prop
  | 0, listed, a, w => Region.ready md ops listed = [] ∧ Q .normal a w
  | fuel + 1, listed, a, w =>
    (Region.ready md ops listed = [] → Q .normal a w) ∧
    ∀ i ∈ Region.ready md ops listed, wpOp P ops Q i (fun a' w' => (S w' ∨ i ∈ zs) ∧ wpZ P md ops Q S zs fuel (listed.setIfInBounds i true) a' w') a w
theorem wpAny_of_zs : ∀ (fuel : Nat) (listed : Array Bool) (a : Act) (w : World), wpZ P md ops Q S zs fuel listed a w → wpAny P md ops Q fuel listed a w
  | 0, _, _, _, h => h
  | fuel + 1, _, _, _, h => ⟨h.1, fun i hi => wpOp_mono (fun a' w' h' => wpAny_of_zs fuel _ a' w' h'.2) (h.2 i hi)⟩
theorem waits_not {listed : Array Bool} {z i : Nat} (hw : Region.waitsFor md ops z i = true) (hi : listed.getD i true = false) : z ∉ Region.ready md ops listed := by
  intro hz
  obtain ⟨oj, hoj, e, he, hb, heq⟩ := Region.waitsFor_spec hw
  obtain ⟨_, oj', hoj', hall⟩ := mem_ready.1 hz
  rw [hoj] at hoj'; cases hoj'
  have h1 := hall e he hb
  rw [heq] at h1
  rcases Nat.lt_or_ge i listed.size with h' | h'
  · simp [h'] at hi h1; rw [hi] at h1; cases h1
  · simp [Array.getElem?_eq_none h'] at h1
theorem wpZ_first {i : Nat} {oi : Oper} {v : Value} (hi : ops[i]? = some oi) (hsel : ∀ (j : Nat) (o : Oper) cs b, ops[j]? = some o → o.op ≠ .select cs b)
    (hQ : ∀ c a w, Q (.panic c) (a.put oi.dst v) w → Q (.panic c) a w) (hz : ∀ z ∈ zs, Region.waitsFor md ops z i = true) :
    ∀ (fuel : Nat) (listed : Array Bool) (a : Act) (w : World),
      (∀ j oj, ops[j]? = some oj → j ≠ i → listed.getD j true = false → (∀ e ∈ oj.after, Region.binds md e = true → e.on ≠ i) → oi.apart ops oj = true) →
      i ∈ Region.ready md ops listed → YieldsIf P ops S oi v a → S w →
      wpZ P md ops Q S zs fuel (listed.setIfInBounds i true) (a.put oi.dst v) w → wpZ P md ops Q S zs (fuel + 1) listed a w := by
  intro fuel
  induction fuel with
  | zero =>
    intro listed a w _ hr hy hS H
    refine ⟨fun h => (by rw [h] at hr; cases hr), fun j hj => ?_⟩
    by_cases hji : j = i
    · subst hji; exact hy.wpOp hi hS ⟨.inl hS, H⟩
    · have := ready_mono hj hji
      rw [H.1] at this
      cases this
  | succ fuel ih =>
    intro listed a w hfree hr hy hS H
    refine ⟨fun h => (by rw [h] at hr; cases hr), fun j hj => ?_⟩
    by_cases hji : j = i
    · subst hji; exact hy.wpOp hi hS ⟨.inl hS, H⟩
    · have h1 := H.2 j (ready_mono hj hji)
      have hjz : j ∉ zs := fun hm => waits_not (hz j hm) (mem_ready.1 hr).1 hj
      obtain ⟨hjun, oj, hoj, hall⟩ := mem_ready.1 hj
      have hnot : ∀ e ∈ oj.after, Region.binds md e = true → e.on ≠ i := fun e he hb heq => by
        have h1 := hall e he hb
        have h0 := (mem_ready.1 hr).1
        rw [heq] at h1
        rcases Nat.lt_or_ge i listed.size with h' | h'
        · simp [h'] at h0 h1; rw [h0] at h1; cases h1
        · simp [Array.getElem?_eq_none h'] at h1
      have h2 := wpOp_putIf hoj (hfree j oj hoj hji hjun hnot) (fun cs b => hsel i oi cs b hi) (fun cs b => hsel j oj cs b hoj) hQ hy h1
      have hfree' : ∀ k ok, ops[k]? = some ok → k ≠ i → (listed.setIfInBounds j true).getD k true = false →
          (∀ e ∈ ok.after, Region.binds md e = true → e.on ≠ i) → oi.apart ops ok = true := fun k ok hk hki hun hno => by
        refine hfree k ok hk hki ?_ hno
        by_cases hjk : j = k
        · subst hjk; exact hjun
        · rw [getD_set_ne true hjk] at hun; exact hun
      refine wpOp_mono (fun a' w' h3 => ⟨h3.2.1, ih (listed.setIfInBounds j true) a' w' hfree' (ready_mono hr (Ne.symm hji)) h3.1 (h3.2.1.resolve_right hjz) ?_⟩) h2
      rw [Array.setIfInBounds_comm _ _ hji]
      exact h3.2.2

/-- What is taken, one after the other, each in whatever world of S. -/
inductive SeqY (P : Program) (ops : Array Oper) (S : World → Prop) : List Nat → Act → Act → Prop
  | nil {a : Act} : SeqY P ops S [] a a
  | cons {i : Nat} {is : List Nat} {a a1 : Act} {o : Oper} {v : Value} : ops[i]? = some o → YieldsIf P ops S o v a → SeqY P ops S is (a.put o.dst v) a1 → SeqY P ops S (i :: is) a a1
theorem SeqY.run {i : Nat} {is : List Nat} {a a1 : Act} {o : Oper} {v : Value} (hi : ops[i]? = some o) (hw : Region.wanted o (yielded ops a.tmps) = true) (hv : ∀ w, S w → (execOp a.eval o).run P w = .ok (.value v) w)
    (h : SeqY P ops S is (a.put o.dst v) a1) : SeqY P ops S (i :: is) a a1 := .cons hi (.inl ⟨hw, hv⟩) h
theorem SeqY.skip {i : Nat} {is : List Nat} {a a1 : Act} {o : Oper} (hi : ops[i]? = some o) (hw : Region.wanted o (yielded ops a.tmps) = false)
    (h : SeqY P ops S is (a.put o.dst undef) a1) : SeqY P ops S (i :: is) a a1 := .cons hi (.inr ⟨hw, rfl⟩) h
def takesOK (md : Region.Mode) (ops : Array Oper) (zs : List Nat) : List Nat → Array Bool → Bool
  | [], _ => true
  | i :: is, listed => Region.free md ops listed i && ((Region.ready md ops listed).contains i && (zs.all (fun z => Region.waitsFor md ops z i) && takesOK md ops zs is (listed.setIfInBounds i true)))
def setAll : List Nat → Array Bool → Array Bool
  | [], l => l
  | i :: is, l => setAll is (l.setIfInBounds i true)
theorem wpZ_seq (hs : Region.noSelect ops = true) (hQ : ∀ c a d v w, Q (.panic c) (Act.put a d v) w → Q (.panic c) a w) {is : List Nat} : ∀ {fuel : Nat} {listed : Array Bool} {a a1 : Act} {w : World}, takesOK md ops zs is listed = true → is.length ≤ fuel → S w → SeqY P ops S is a a1 →
    wpZ P md ops Q S zs (fuel - is.length) (setAll is listed) a1 w → wpZ P md ops Q S zs fuel listed a w := by
  induction is with
  | nil => intro fuel listed a a1 w _ _ _ hy h; cases hy; simpa [setAll] using h
  | cons i is ih =>
    intro fuel listed a a1 w hok hf hS hy h
    simp only [takesOK, Bool.and_eq_true, List.all_eq_true] at hok
    obtain ⟨h1, h2, h3, h4⟩ := hok
    obtain ⟨fuel, rfl⟩ : ∃ f, fuel = f + 1 := ⟨fuel - 1, by simp at hf; omega⟩
    cases hy with
    | cons hi hyi hrest =>
      refine wpZ_first hi (Region.noSelect_spec hs) (fun c a w h => hQ c a _ _ w h) h3 fuel listed a w (Region.free_spec hi h1) (by simpa using h2) hyi hS ?_
      refine ih h4 (by simp at hf; omega) hS hrest ?_
      rw [show fuel + 1 - (i :: is).length = fuel - is.length by simp] at h
      exact h
theorem wpZ_batch {is : List Nat} {fuel : Nat} {listed : Array Bool} {a a1 : Act} {w : World} (hok : (Region.noSelect ops && (takesOK md ops zs is listed && decide (is.length ≤ fuel))) = true)
    (hS : S w) (hy : SeqY P ops S is a a1) (h : wpZ P md ops (NoPanic Q) S zs (fuel - is.length) (setAll is listed) a1 w) : wpZ P md ops (NoPanic Q) S zs fuel listed a w := by
  simp only [Bool.and_eq_true, decide_eq_true_eq] at hok
  exact wpZ_seq hok.1 (fun _ _ _ _ _ h => h) hok.2.1 hok.2.2 hS hy h
/-- One operation alone may come up; it keeps S. -/
theorem wpZ_one {i : Nat} {o : Oper} {fuel : Nat} {listed : Array Bool} {a : Act} {w : World} (hr : (decide (0 < fuel) && Region.ready md ops listed == [i]) = true) (ho : ops[i]? = some o)
    (h : ∀ K' : Act → World → Prop, Shut (∀ a w, S w → (S w → wpZ P md ops Q S zs (fuel - 1) (listed.setIfInBounds i true) a w) → K' a w) →
      if Region.wanted o (yielded ops a.tmps) = true then Oper.wp P o a w K' Q else K' (a.put o.dst undef) w) : wpZ P md ops Q S zs fuel listed a w := by
  simp only [Bool.and_eq_true, decide_eq_true_eq, beq_iff_eq] at hr
  obtain ⟨fuel, rfl⟩ : ∃ f, fuel = f + 1 := ⟨fuel - 1, by omega⟩
  refine ⟨fun h0 => (by rw [hr.2] at h0; cases h0), fun j hj => ?_⟩
  rw [hr.2] at hj
  have : j = i := by simpa using hj
  subst this
  exact wpOp_step ho (fun K' hK => h K' (fun a w hS hW => hK a w ⟨.inl hS, hW hS⟩))
/-- One operation of zs alone may come up; S is not asked behind it. -/
theorem wpZ_end {i : Nat} {o : Oper} {fuel : Nat} {listed : Array Bool} {a : Act} {w : World} (hr : (decide (0 < fuel) && (Region.ready md ops listed == [i] && zs.contains i)) = true) (ho : ops[i]? = some o)
    (h : ∀ K' : Act → World → Prop, Shut (∀ a w, wpZ P md ops Q S zs (fuel - 1) (listed.setIfInBounds i true) a w → K' a w) →
      if Region.wanted o (yielded ops a.tmps) = true then Oper.wp P o a w K' Q else K' (a.put o.dst undef) w) : wpZ P md ops Q S zs fuel listed a w := by
  simp only [Bool.and_eq_true, decide_eq_true_eq, beq_iff_eq] at hr
  obtain ⟨fuel, rfl⟩ : ∃ f, fuel = f + 1 := ⟨fuel - 1, by omega⟩
  refine ⟨fun h0 => (by rw [hr.2.1] at h0; cases h0), fun j hj => ?_⟩
  rw [hr.2.1] at hj
  have : j = i := by simpa using hj
  subst this
  exact wpOp_step ho (fun K' hK => h K' (fun a w hW => hK a w ⟨.inr (by simpa using hr.2.2), hW⟩))
theorem wpZ_done {fuel : Nat} {listed : Array Bool} {a : Act} {w : World} (hr : (Region.ready md ops listed == []) = true) (h : Q .normal a w) : wpZ P md ops (NoPanic Q) S zs fuel listed a w := by
  have hr' : Region.ready md ops listed = [] := by simpa using hr
  cases fuel with
  | zero => exact ⟨hr', NoPanic.normal h⟩
  | succ fuel => exact ⟨fun _ => NoPanic.normal h, by rw [hr']; simp⟩
theorem put_swap (a : Act) {d1 d2 : Option Tmp} (h : ∀ d, d2 = some d → d1 = some d → False) (v1 v2 : Value) : (a.put d2 v2).put d1 v1 = (a.put d1 v1).put d2 v2 := by
  cases d1 with
  | none => cases d2 <;> rfl
  | some x =>
    cases d2 with
    | none => rfl
    | some y =>
      have : y ≠ x := fun e => h y rfl (by rw [e])
      simp only [Act.put, Array.setIfInBounds_comm _ _ this]
/-- What an operation gives, with no word on the frame. -/
def Gives (P : Program) (o : Oper) (a : Act) (w : World) (R : Value → World → Prop) : Prop :=
  match (execOp a.eval o).run P w with
  | .ok (.value v) w' => R v w'
  | .ok (.enter f args) w' => Calls P f args w' fun e w'' => ∃ v, e = .returned v ∧ R v w''
  | _ => False
theorem Gives.wp {o : Oper} {a : Act} {w : World} {R : Value → World → Prop} (h : Gives P o a w R) {K : Act → World → Prop} (hK : ∀ v w', R v w' → K (a.put o.dst v) w') : Oper.wp P o a w K Q := by
  unfold Gives at h
  unfold Oper.wp
  generalize (execOp a.eval o).run P w = r at h
  cases r with
  | ok n w' =>
    cases n with
    | value v => exact hK _ _ h
    | enter f args =>
      refine Calls.mono h ?_
      rintro e w'' ⟨v, rfl, hv⟩
      exact hK _ _ hv
    | _ => exact h.elim
  | halt x w' => exact h.elim
/-- Two operations may come up, in either order; what follows hangs on neither. -/
theorem wpZ_both {i k : Nat} {oi ok : Oper} {fuel : Nat} {listed : Array Bool} {a : Act} {w : World} (K : Value → Value → World → Prop)
    (hr : (decide (1 < fuel) && (Region.ready md ops listed == [i, k] && (Region.ready md ops (listed.setIfInBounds i true) == [k] && (Region.ready md ops (listed.setIfInBounds k true) == [i] && (i != k && (Region.noSelect ops && (oi.apart ops ok && ok.apart ops oi))))))) = true) (hi : ops[i]? = some oi) (hk : ops[k]? = some ok)
    (gi : oi.guard = none) (gk : ok.guard = none)
    (h1 : Gives P oi a w fun v1 w1 => S w1 ∧ Gives P ok a w1 fun v2 w2 => S w2 ∧ K v1 v2 w2)
    (h2 : Gives P ok a w fun v2 w1 => S w1 ∧ Gives P oi a w1 fun v1 w2 => S w2 ∧ K v1 v2 w2)
    (hK : ∀ v1 v2 w, S w → K v1 v2 w → wpZ P md ops Q S zs (fuel - 2) ((listed.setIfInBounds i true).setIfInBounds k true) ((a.put oi.dst v1).put ok.dst v2) w) : wpZ P md ops Q S zs fuel listed a w := by
  simp only [Bool.and_eq_true, decide_eq_true_eq, beq_iff_eq, bne_iff_ne] at hr
  obtain ⟨r0, r1, r2, r3, r4, r5, r6, r7⟩ := hr
  obtain ⟨fuel, rfl⟩ : ∃ f, fuel = f + 1 + 1 := ⟨fuel - 2, by omega⟩
  have wi : ∀ a, Region.wanted oi (yielded ops a) = true := fun a => by simp [Region.wanted, gi]
  have wk : ∀ a, Region.wanted ok (yielded ops a) = true := fun a => by simp [Region.wanted, gk]
  have ei : ∀ v R w, Gives P oi a w R → Gives P oi (a.put ok.dst v) w R := fun v R w h => by
    unfold Gives at *
    rw [execOp_put oi (fun cs b => Region.noSelect_spec r5 i oi cs b hi) a ok.dst v (Oper.apart_spec r7).1]
    exact h
  have ek : ∀ v R w, Gives P ok a w R → Gives P ok (a.put oi.dst v) w R := fun v R w h => by
    unfold Gives at *
    rw [execOp_put ok (fun cs b => Region.noSelect_spec r5 k ok cs b hk) a oi.dst v (Oper.apart_spec r6).1]
    exact h
  have hd : ∀ v1 v2, (a.put ok.dst v2).put oi.dst v1 = (a.put oi.dst v1).put ok.dst v2 := fun v1 v2 => put_swap a (fun d hd1 hd2 => (Oper.apart_spec r6).2.1 d hd2 hd1) v1 v2
  refine ⟨fun h0 => (by rw [r1] at h0; cases h0), fun j hj => ?_⟩
  rw [r1] at hj
  have : j = i ∨ j = k := by simpa using hj
  rcases this with rfl | rfl
  · refine wpOp_step hi (fun K1 hK1 => ?_)
    rw [if_pos (wi _)]
    refine h1.wp (fun v1 w1 ⟨hS, hN⟩ => hK1 _ _ ⟨.inl hS, fun h0 => (by rw [r2] at h0; cases h0), fun j' hj' => ?_⟩)
    rw [r2] at hj'
    have : j' = k := by simpa using hj'
    subst this
    refine wpOp_step hk (fun K2 hK2 => ?_)
    rw [if_pos (wk _)]
    exact (ek v1 _ _ hN).wp (fun v2 w2 ⟨hS, hKa⟩ => hK2 _ _ ⟨.inl hS, hK v1 v2 _ hS hKa⟩)
  · refine wpOp_step hk (fun K1 hK1 => ?_)
    rw [if_pos (wk _)]
    refine h2.wp (fun v2 w1 ⟨hS, hN⟩ => hK1 _ _ ⟨.inl hS, fun h0 => (by rw [r3] at h0; cases h0), fun j' hj' => ?_⟩)
    rw [r3] at hj'
    have : j' = i := by simpa using hj'
    subst this
    refine wpOp_step hi (fun K2 hK2 => ?_)
    rw [if_pos (wi _)]
    refine (ei v2 _ _ hN).wp (fun v1 w2 ⟨hS, hKa⟩ => hK2 _ _ ⟨.inl hS, ?_⟩)
    rw [Array.setIfInBounds_comm _ _ (Ne.symm r4), hd]
    exact hK v1 v2 _ hS hKa
theorem seqY_put {is : List Nat} {d : Option Tmp} : ∀ {a a1 : Act} (v : Value), (∀ i ∈ is, ∀ o, ops[i]? = some o → (∀ cs b, o.op ≠ .select cs b) ∧ (∀ x, d = some x → x ∉ o.looksAt ops) ∧ (∀ x, o.dst = some x → d = some x → False)) → SeqY P ops S is a a1 → SeqY P ops S is (a.put d v) (a1.put d v) := by
  induction is with
  | nil => intro a a1 v _ h; cases h; exact .nil
  | cons i is ih =>
    intro a a1 v hc h
    cases h with
    | @cons _ _ _ _ o u hi hy hr =>
      obtain ⟨c1, c2, c3⟩ := hc i (List.mem_cons_self ..) o hi
      refine .cons hi (hy.of_same (execOp_put o c1 a d v c2) (wanted_put o a d v c2)) ?_
      rw [put_swap a (fun x h1 h2 => c3 x h2 h1)]
      exact ih v (fun j hj => hc j (List.mem_cons_of_mem _ hj)) hr
def apartAll (ops : Array Oper) (is : List Nat) (ok : Oper) : Bool := is.all fun j => match ops[j]? with | some oj => oj.apart ops ok | none => true
/-- A call whose answer is known, and what may come ahead of it or behind; what hangs on the answer alone is taken too. -/
theorem wpZ_call {i k : Nat} {is : List Nat} {oi ok : Oper} {v1 : Value} {fuel : Nat} {listed : Array Bool} {a a1 : Act} {w : World} (K : Value → World → Prop)
    (hr : (decide (1 + is.length < fuel) && (Region.ready md ops listed == [i, k] && (takesOK md ops zs is (listed.setIfInBounds i true) && (Region.ready md ops (setAll is (listed.setIfInBounds i true)) == [k] && (Region.ready md ops (listed.setIfInBounds k true) == [i] &&
      (takesOK md ops zs is ((listed.setIfInBounds k true).setIfInBounds i true) && ((setAll is (listed.setIfInBounds i true)).setIfInBounds k true == setAll is ((listed.setIfInBounds k true).setIfInBounds i true) && (i != k && (Region.noSelect ops && (oi.apart ops ok && (ok.apart ops oi && apartAll ops is ok))))))))))) = true) (hi : ops[i]? = some oi) (hk : ops[k]? = some ok)
    (gi : oi.guard = none) (gk : ok.guard = none)
    (h1 : Gives P oi a w fun v w1 => v = v1 ∧ S w1 ∧ Gives P ok a w1 fun v2 w2 => S w2 ∧ K v2 w2)
    (h2 : Gives P ok a w fun v2 w1 => S w1 ∧ Gives P oi a w1 fun v w2 => v = v1 ∧ S w2 ∧ K v2 w2)
    (hy : SeqY P ops S is (a.put oi.dst v1) a1)
    (hK : ∀ v2 w, S w → K v2 w → wpZ P md ops (NoPanic Q) S zs (fuel - 2 - is.length) ((setAll is (listed.setIfInBounds i true)).setIfInBounds k true) (a1.put ok.dst v2) w) : wpZ P md ops (NoPanic Q) S zs fuel listed a w := by
  simp only [Bool.and_eq_true, decide_eq_true_eq, beq_iff_eq, bne_iff_ne] at hr
  obtain ⟨r0, r1, r2, r3, r4, r5, r6, r7, r8, r9, r10, r11⟩ := hr
  obtain ⟨fuel, rfl⟩ : ∃ f, fuel = f + 1 + 1 + is.length := ⟨fuel - 2 - is.length, by omega⟩
  have wi : ∀ a, Region.wanted oi (yielded ops a) = true := fun a => by simp [Region.wanted, gi]
  have wk : ∀ a, Region.wanted ok (yielded ops a) = true := fun a => by simp [Region.wanted, gk]
  have apk : ∀ j ∈ is, ∀ o, ops[j]? = some o → (∀ cs b, o.op ≠ .select cs b) ∧ (∀ x, ok.dst = some x → x ∉ o.looksAt ops) ∧ (∀ x, o.dst = some x → ok.dst = some x → False) := by
    intro j hj o ho
    have := List.all_eq_true.1 r11 j hj
    simp only [ho] at this
    obtain ⟨_, p2, p3⟩ := Oper.apart_spec this
    exact ⟨fun cs b => Region.noSelect_spec r8 j o cs b ho, p3, fun x h1 h2 => p2 x h1 h2⟩
  have ei : ∀ v R w, Gives P oi a w R → Gives P oi (a.put ok.dst v) w R := fun v R w h => by
    unfold Gives at *
    rw [execOp_put oi (fun cs b => Region.noSelect_spec r8 i oi cs b hi) a ok.dst v (Oper.apart_spec r10).1]
    exact h
  have hd : ∀ v1 v2, (a.put ok.dst v2).put oi.dst v1 = (a.put oi.dst v1).put ok.dst v2 := fun v1 v2 => put_swap a (fun d hd1 hd2 => (Oper.apart_spec r9).2.1 d hd2 hd1) v1 v2
  have same1 : ∀ {is : List Nat} {a a1 : Act}, SeqY P ops S is a a1 → (∀ i ∈ is, ∀ o, ops[i]? = some o → ∀ x, o.dst = some x → x ∉ ok.looksAt ops) → ∀ R w, Gives P ok a w R → Gives P ok a1 w R := by
    intro is
    induction is with
    | nil => intro a a1 h _ R w g; cases h; exact g
    | cons j is ih =>
      intro a a1 h hc R w g
      cases h with
      | @cons _ _ _ _ o u ho _ hrest =>
        refine ih hrest (fun i hi => hc i (List.mem_cons_of_mem _ hi)) R w ?_
        unfold Gives at *
        rw [execOp_put ok (fun cs b => Region.noSelect_spec r8 k ok cs b hk) a o.dst u (hc j (List.mem_cons_self ..) o ho)]
        exact g
  have ek : ∀ R w, Gives P ok a w R → Gives P ok a1 w R := fun R w g => by
    refine same1 hy (fun j hj o ho => ?_) R w ?_
    · have := List.all_eq_true.1 r11 j hj
      simp only [ho] at this
      exact (Oper.apart_spec this).1
    · unfold Gives at *
      rw [execOp_put ok (fun cs b => Region.noSelect_spec r8 k ok cs b hk) a oi.dst v1 (Oper.apart_spec r9).1]
      exact g
  have nq : ∀ c a d v w, NoPanic Q (.panic c) (Act.put a d v) w → NoPanic Q (.panic c) a w := fun _ _ _ _ _ h => h
  rw [show fuel + 1 + 1 + is.length = (fuel + 1 + is.length) + 1 by omega]
  refine ⟨fun h0 => (by rw [r1] at h0; cases h0), fun j hj => ?_⟩
  rw [r1] at hj
  have : j = i ∨ j = k := by simpa using hj
  rcases this with rfl | rfl
  · refine wpOp_step hi (fun K1 hK1 => ?_)
    rw [if_pos (wi _)]
    refine h1.wp (fun v w1 ⟨hv, hS, hN⟩ => hK1 _ _ ⟨.inl hS, ?_⟩)
    subst hv
    refine wpZ_seq r8 nq r2 (by omega) hS hy ?_
    rw [show fuel + 1 + is.length - is.length = fuel + 1 by omega]
    refine ⟨fun h0 => (by rw [r3] at h0; cases h0), fun j' hj' => ?_⟩
    rw [r3] at hj'
    have : j' = k := by simpa using hj'
    subst this
    refine wpOp_step hk (fun K2 hK2 => ?_)
    rw [if_pos (wk _)]
    refine (ek _ _ hN).wp (fun v2 w2 ⟨hS2, hKa⟩ => hK2 _ _ ⟨.inl hS2, ?_⟩)
    have := hK v2 _ hS2 hKa
    rwa [show fuel + 1 + 1 + is.length - 2 - is.length = fuel by omega] at this
  · refine wpOp_step hk (fun K1 hK1 => ?_)
    rw [if_pos (wk _)]
    refine h2.wp (fun v2 w1 ⟨hS, hN⟩ => hK1 _ _ ⟨.inl hS, ?_⟩)
    rw [show fuel + 1 + is.length = (fuel + is.length) + 1 by omega]
    refine ⟨fun h0 => (by rw [r4] at h0; cases h0), fun j' hj' => ?_⟩
    rw [r4] at hj'
    have : j' = i := by simpa using hj'
    subst this
    refine wpOp_step hi (fun K2 hK2 => ?_)
    rw [if_pos (wi _)]
    refine (ei v2 _ _ hN).wp (fun v w2 ⟨hv, hS2, hKa⟩ => hK2 _ _ ⟨.inl hS2, ?_⟩)
    subst hv
    rw [hd]
    refine wpZ_seq r8 nq r5 (by omega) hS2 (seqY_put v2 apk hy) ?_
    rw [show fuel + is.length - is.length = fuel by omega, ← r6]
    have := hK v2 _ hS2 hKa
    rwa [show fuel + 1 + 1 + is.length - 2 - is.length = fuel by omega] at this
end
theorem wp_region_zs {ops : Array Oper} {id : Nat} {a : Act} {w : World} {Q : Exit → Act → World → Prop} (S : World → Prop) (zs : List Nat) (hm : P.follows .mixedOrders = true)
    (h : wpZ P .any ops (NoPanic Q) S zs ops.size (Array.replicate ops.size false) a w.drew) : (Code.region id ops true).wp P Q a w :=
  wp_region_noPanic <| wp_region_any hm (wpAny_of_zs _ _ _ _ h)
end Go.Proofs.Ytbholafggbdieaa
