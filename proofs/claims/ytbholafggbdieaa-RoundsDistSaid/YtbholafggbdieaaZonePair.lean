/- Regions that draw their order: two operations that make memory, in either order. No program in sight. -/
import Derived.Test.YtbholafggbdieaaZones
namespace Go.Proofs.Ytbholafggbdieaa
open Go Go.RowKit
variable {P : Program}
section
variable {ops : Array Oper} {Q : Exit → Act → World → Prop} {md : Region.Mode} {S : World → Prop} {zs : List Nat}
/-- Two operations in either order; what hangs on the first one's answer alone is taken behind it. -/
theorem wpZ_pair {i k : Nat} {is : List Nat} {oi ok : Oper} {fuel : Nat} {listed : Array Bool} {a : Act} {w : World} (K : Value → Value → World → Prop) (a1 : Value → Act)
    (hr : (decide (1 + is.length < fuel) && (Region.ready md ops listed == [i, k] && (takesOK md ops zs is (listed.setIfInBounds i true) && (Region.ready md ops (setAll is (listed.setIfInBounds i true)) == [k] && (Region.ready md ops (listed.setIfInBounds k true) == [i] &&
      (takesOK md ops zs is ((listed.setIfInBounds k true).setIfInBounds i true) && ((setAll is (listed.setIfInBounds i true)).setIfInBounds k true == setAll is ((listed.setIfInBounds k true).setIfInBounds i true) && (i != k && (Region.noSelect ops && (oi.apart ops ok && (ok.apart ops oi && apartAll ops is ok))))))))))) = true) (hi : ops[i]? = some oi) (hk : ops[k]? = some ok)
    (gi : oi.guard = none) (gk : ok.guard = none)
    (h1 : Gives P oi a w fun v1 w1 => S w1 ∧ Gives P ok a w1 fun v2 w2 => S w2 ∧ K v1 v2 w2)
    (h2 : Gives P ok a w fun v2 w1 => S w1 ∧ Gives P oi a w1 fun v1 w2 => S w2 ∧ K v1 v2 w2)
    (hy : ∀ v1, SeqY P ops S is (a.put oi.dst v1) (a1 v1))
    (hK : ∀ v1 v2 w, S w → K v1 v2 w → wpZ P md ops (NoPanic Q) S zs (fuel - 2 - is.length) ((setAll is (listed.setIfInBounds i true)).setIfInBounds k true) ((a1 v1).put ok.dst v2) w) : wpZ P md ops (NoPanic Q) S zs fuel listed a w := by
  simp only [Bool.and_eq_true, decide_eq_true_eq, beq_iff_eq, bne_iff_ne] at hr
  obtain ⟨r0, r1, r2, r3, r4, r5, r6, r7, r8, r9, r10, r11⟩ := hr
  obtain ⟨fuel, rfl⟩ : ∃ f, fuel = f + 1 + 1 + is.length := ⟨fuel - 2 - is.length, by omega⟩
  have wi : ∀ a, Region.wanted oi (yielded ops a) = true := fun a => by simp [Region.wanted, gi]
  have wk : ∀ a, Region.wanted ok (yielded ops a) = true := fun a => by simp [Region.wanted, gk]
  have apk : ∀ j ∈ is, ∀ o, ops[j]? = some o → (∀ cs b, o.op ≠ .select cs b) ∧ (∀ x, ok.dst = some x → x ∉ o.looksAt ops) ∧ (∀ x, o.dst = some x → ok.dst = some x → False) := by
    intro j hj o ho
    have := List.all_eq_true.1 r11 j hj
    simp only [ho] at this
    obtain ⟨_, p2, p3⟩ := Oper.apart_spec this
    exact ⟨fun cs b => Region.noSelect_spec r8 j o cs b ho, p3, fun x h1 h2 => p2 x h1 h2⟩
  have ei : ∀ v R w, Gives P oi a w R → Gives P oi (a.put ok.dst v) w R := fun v R w h => by
    unfold Gives at *
    rw [execOp_put oi (fun cs b => Region.noSelect_spec r8 i oi cs b hi) a ok.dst v (Oper.apart_spec r10).1]
    exact h
  have hd : ∀ v1 v2, (a.put ok.dst v2).put oi.dst v1 = (a.put oi.dst v1).put ok.dst v2 := fun v1 v2 => put_swap a (fun d hd1 hd2 => (Oper.apart_spec r9).2.1 d hd2 hd1) v1 v2
  have same1 : ∀ {is : List Nat} {a a1 : Act}, SeqY P ops S is a a1 → (∀ i ∈ is, ∀ o, ops[i]? = some o → ∀ x, o.dst = some x → x ∉ ok.looksAt ops) → ∀ R w, Gives P ok a w R → Gives P ok a1 w R := by
    intro is
    induction is with
    | nil => intro a a1 h _ R w g; cases h; exact g
    | cons j is ih =>
      intro a a1 h hc R w g
      cases h with
      | @cons _ _ _ _ o u ho _ hrest =>
        refine ih hrest (fun i hi => hc i (List.mem_cons_of_mem _ hi)) R w ?_
        unfold Gives at *
        rw [execOp_put ok (fun cs b => Region.noSelect_spec r8 k ok cs b hk) a o.dst u (hc j (List.mem_cons_self ..) o ho)]
        exact g
  have ek : ∀ v1 R w, Gives P ok a w R → Gives P ok (a1 v1) w R := fun v1 R w g => by
    refine same1 (hy v1) (fun j hj o ho => ?_) R w ?_
    · have := List.all_eq_true.1 r11 j hj
      simp only [ho] at this
      exact (Oper.apart_spec this).1
    · unfold Gives at *
      rw [execOp_put ok (fun cs b => Region.noSelect_spec r8 k ok cs b hk) a oi.dst v1 (Oper.apart_spec r9).1]
      exact g
  have nq : ∀ c a d v w, NoPanic Q (.panic c) (Act.put a d v) w → NoPanic Q (.panic c) a w := fun _ _ _ _ _ h => h
  rw [show fuel + 1 + 1 + is.length = (fuel + 1 + is.length) + 1 by omega]
  refine ⟨fun h0 => (by rw [r1] at h0; cases h0), fun j hj => ?_⟩
  rw [r1] at hj
  have : j = i ∨ j = k := by simpa using hj
  rcases this with rfl | rfl
  · refine wpOp_step hi (fun K1 hK1 => ?_)
    rw [if_pos (wi _)]
    refine h1.wp (fun v1 w1 ⟨hS, hN⟩ => hK1 _ _ ⟨.inl hS, ?_⟩)
    refine wpZ_seq r8 nq r2 (by omega) hS (hy v1) ?_
    rw [show fuel + 1 + is.length - is.length = fuel + 1 by omega]
    refine ⟨fun h0 => (by rw [r3] at h0; cases h0), fun j' hj' => ?_⟩
    rw [r3] at hj'
    have : j' = k := by simpa using hj'
    subst this
    refine wpOp_step hk (fun K2 hK2 => ?_)
    rw [if_pos (wk _)]
    refine (ek _ _ _ hN).wp (fun v2 w2 ⟨hS2, hKa⟩ => hK2 _ _ ⟨.inl hS2, ?_⟩)
    have := hK v1 v2 _ hS2 hKa
    rwa [show fuel + 1 + 1 + is.length - 2 - is.length = fuel by omega] at this
  · refine wpOp_step hk (fun K1 hK1 => ?_)
    rw [if_pos (wk _)]
    refine h2.wp (fun v2 w1 ⟨hS, hN⟩ => hK1 _ _ ⟨.inl hS, ?_⟩)
    rw [show fuel + 1 + is.length = (fuel + is.length) + 1 by omega]
    refine ⟨fun h0 => (by rw [r4] at h0; cases h0), fun j' hj' => ?_⟩
    rw [r4] at hj'
    have : j' = i := by simpa using hj'
    subst this
    refine wpOp_step hi (fun K2 hK2 => ?_)
    rw [if_pos (wi _)]
    refine (ei v2 _ _ hN).wp (fun v1 w2 ⟨hS2, hKa⟩ => hK2 _ _ ⟨.inl hS2, ?_⟩)
    rw [hd]
    refine wpZ_seq r8 nq r5 (by omega) hS2 (seqY_put v2 apk (hy v1)) ?_
    rw [show fuel + is.length - is.length = fuel by omega, ← r6]
    have := hK v1 v2 _ hS2 hKa
    rwa [show fuel + 1 + 1 + is.length - 2 - is.length = fuel by omega] at this
/-- The same, where the first one's answer is put into one slot more. -/
theorem wpZ_pair1 {i k m : Nat} {oi ok om : Oper} {fuel : Nat} {listed : Array Bool} {a : Act} {w : World} (K : Value → Value → World → Prop)
    (hr : (decide (1 + [m].length < fuel) && (Region.ready md ops listed == [i, k] && (takesOK md ops zs [m] (listed.setIfInBounds i true) && (Region.ready md ops (setAll [m] (listed.setIfInBounds i true)) == [k] && (Region.ready md ops (listed.setIfInBounds k true) == [i] &&
      (takesOK md ops zs [m] ((listed.setIfInBounds k true).setIfInBounds i true) && ((setAll [m] (listed.setIfInBounds i true)).setIfInBounds k true == setAll [m] ((listed.setIfInBounds k true).setIfInBounds i true) && (i != k && (Region.noSelect ops && (oi.apart ops ok && (ok.apart ops oi && apartAll ops [m] ok))))))))))) = true) (hi : ops[i]? = some oi) (hk : ops[k]? = some ok)
    (gi : oi.guard = none) (gk : ok.guard = none) (hm : ops[m]? = some om) (gm : om.guard = none) (hv : ∀ v1 W, (execOp (a.put oi.dst v1).eval om).run P W = .ok (.value v1) W)
    (h1 : Gives P oi a w fun v1 w1 => S w1 ∧ Gives P ok a w1 fun v2 w2 => S w2 ∧ K v1 v2 w2)
    (h2 : Gives P ok a w fun v2 w1 => S w1 ∧ Gives P oi a w1 fun v1 w2 => S w2 ∧ K v1 v2 w2)
    (hK : ∀ v1 v2 w, S w → K v1 v2 w → wpZ P md ops (NoPanic Q) S zs (fuel - 2 - 1) ((setAll [m] (listed.setIfInBounds i true)).setIfInBounds k true) (((a.put oi.dst v1).put om.dst v1).put ok.dst v2) w) : wpZ P md ops (NoPanic Q) S zs fuel listed a w :=
  wpZ_pair K (fun v1 => (a.put oi.dst v1).put om.dst v1) hr hi hk gi gk h1 h2 (fun v1 => SeqY.run hm (by simp [Region.wanted, gm]) (fun W _ => hv v1 W) SeqY.nil) hK
end
end Go.Proofs.Ytbholafggbdieaa
