/- Words for rounds.Next: what lies in memory on the way. -/
import Derived.Test.YtbholafggbdieaaNext
import Derived.IntWalk
namespace Go.Proofs.Ytbholafggbdieaa
open Go.RowKit

theorem wake_in {j : Jb} {s : Stt} (hj : GoodJ j) (hs : GoodS j s) {k : Nat} (hk : k < j.n.toNat) {u : Value} {w : World} (hu : Sl 1 encN w w.heap.size u (s.mail[k]?.getD [])) :
    Calls Try.prog 13 #[.int .i64 j.kind, .int .i64 k, .int .i64 j.src, .agg #[.int .i64 (s.vals[k]?.getD ⟨-1, -1⟩).a, .int .i64 (s.vals[k]?.getD ⟨-1, -1⟩).l], .int .i64 s.phase, .bool s.fresh, u] w fun e w' =>
      e = .returned (.tuple #[.agg #[.int .i64 (wakeG j.kind k j.src (s.vals[k]?.getD ⟨-1, -1⟩) s.phase s.fresh (s.mail[k]?.getD [])).1.a, .int .i64 (wakeG j.kind k j.src (s.vals[k]?.getD ⟨-1, -1⟩) s.phase s.fresh (s.mail[k]?.getD [])).1.l], .bool (wakeG j.kind k j.src (s.vals[k]?.getD ⟨-1, -1⟩) s.phase s.fresh (s.mail[k]?.getD [])).2, .int .i64 0]) ∧ Below w.heap.size w w' := by
  have h1 := hj.top; have h2 := hs.vlen; have h3 := hs.mlen
  have ev : s.vals[k]?.getD ⟨-1, -1⟩ = s.vals[k]'(by omega) := by rw [List.getElem?_eq_getElem (by omega)]; rfl
  have em : s.mail[k]?.getD [] = s.mail[k]'(by omega) := by rw [List.getElem?_eq_getElem (by omega)]; rfl
  refine wake_any j.kind k j.src _ s.phase s.fresh _ u w hu hj.kind hs.phase (by omega) (by omega) ?_ ?_
  · rw [ev]; exact hs.val _ (List.getElem_mem _)
  · rw [em]; exact hs.range _ (List.getElem_mem _)

/-- What lies in the blocks of Next's own: the next state's round, values, rows. -/
structure NxR (w0 : World) (j : Jb) (s : Stt) (n : Nat) (ev : Value) (J : Nat) (bv bm : Value) (R g M c1 : Nat) (k q : Nat) (vs : List Value) (w : World) : Prop where
  job : Bk w J 27 #[.int .i64 (n : Int), ev, .int .i64 j.kind, .int .i64 j.src]
  st : Bk w (J + 1) 32 #[.int .i64 s.step, .int .i64 s.phase, .bool s.fresh, .bool false, bv, bm]
  res : Bk w (J + 1 + 1) 32 #[.int .i64 0, .int .i64 0, .bool false, .bool false, .slice none 0 0, .slice none 0 0]
  rnd : Bk w R 64 #[.int .i64 (n : Int), ev, .int .i64 j.kind, .int .i64 j.src, .int .i64 (s.step + 1), .int .i64 s.phase, .bool false, .bool false, .slice (some ⟨g, 0, none⟩) n c1, .slice (some ⟨M, 0, none⟩) n n, .int .i64 0]
  own : w.ownsRow (J + 1 + 1 + 1) 40 2 (.slice (some ⟨g, 0, none⟩) n c1) n ((valsK j s k).flatMap encV)
  rows : RowsM w M n (R + 1 ≤ ·) (msgsG j s q) vs
  below : Below w0.heap.size w0 w

def NextK (B n : Nat) (l : List Vl) (w2 : World) (v1 v2 : Value) (w' : World) : Prop :=
  ∃ g c1 M : Nat, v1 = .slice (some ⟨g, 0, none⟩) n c1 ∧ v2 = .slice (some ⟨M, 0, none⟩) n n ∧ w'.ownsRow (B + 1 + 1 + 1) 40 2 v1 n (l.flatMap encV) ∧ Bk w' M 38 (Array.replicate n (Value.slice none 0 0)) ∧ Below w2.heap.size w2 w' ∧ w2.heap.size ≤ M

structure WakeS (J : Nat) (j : Jb) (s : Stt) (bm : Value) (mc : Addr) (u : Value) (x : Nat) (xa xl : Int) (w : World) : Prop where
  c0 : w.cell? ⟨J, 2, none⟩ = some (.int .i64 j.kind)
  c1 : w.cell? ⟨J, 3, none⟩ = some (.int .i64 j.src)
  c2 : w.cell? ⟨J + 1, 1, none⟩ = some (.int .i64 s.phase)
  c3 : w.cell? ⟨J + 1, 2, none⟩ = some (.bool s.fresh)
  c4 : w.cell? ⟨J + 1, 5, none⟩ = some bm
  c5 : w.cell? mc = some u
  c6 : w.cell? ⟨x, 0, none⟩ = some (.int .i64 xa)
  c7 : w.cell? ⟨x, 1, none⟩ = some (.int .i64 xl)
theorem WakeS.far {J : Nat} {j : Jb} {s : Stt} {bm : Value} {mc : Addr} {u : Value} {x : Nat} {xa xl : Int} {w : World} (h : WakeS J j s bm mc u x xa xl w) {p : Addr} (h1 : p.block ≠ J) (h2 : p.block ≠ J + 1) (h3 : p.block ≠ mc.block) (h4 : p.block ≠ x) (v : Value) : WakeS J j s bm mc u x xa xl (w.setCell p v) := by
  have far : ∀ (a : Addr), a.block ≠ p.block → (w.setCell p v).cell? a = w.cell? a := fun a ha => World.cell?_of_block (w := w) (Below.heap_setCell w p v a.block ha)
  exact ⟨(far _ (Ne.symm h1)).trans h.c0, (far _ (Ne.symm h1)).trans h.c1, (far _ (Ne.symm h2)).trans h.c2, (far _ (Ne.symm h2)).trans h.c3, (far _ (Ne.symm h2)).trans h.c4, (far _ (Ne.symm h3)).trans h.c5, (far _ (Ne.symm h4)).trans h.c6, (far _ (Ne.symm h4)).trans h.c7⟩
def WakeK (w : World) (v2 : Value) (w' : World) : Prop :=
  ∃ p : Nat, v2 = .pointer (some ⟨p, 0, none⟩) ∧ Bk w' p 40 #[.int .i64 0, .int .i64 0] ∧ Below w.heap.size w w' ∧ w.heap.size ≤ p
theorem wokeG_at {j : Jb} {s : Stt} {k : Nat} {x : Vl} {l : List Int} (hx : s.vals[k]? = some x) (hl : s.mail[k]? = some l) : wokeG j s k = if s.fresh = false ∧ l = [] then (x, false) else wakeG j.kind k j.src x s.phase s.fresh l := by
  unfold wokeG; rw [hx, hl]; rfl
theorem NxR.old {w0 w w' : World} {j : Jb} {s : Stt} {n : Nat} {ev : Value} {J : Nat} {bv bm : Value} {R g M c1 k q : Nat} {vs : List Value} (h : NxR w0 j s n ev J bv bm R g M c1 k q vs w) (hb : Below w.heap.size w w') : NxR w0 j s n ev J bv bm R g M c1 k q vs w' :=
  ⟨h.job.old hb, h.st.old hb, h.res.old hb, h.rnd.old hb, own_old h.own hb, h.rows.old hb, h.below.trans (hb.mono h.below.size)⟩
theorem NxR.skip {w0 w w' : World} {j : Jb} {s : Stt} {n : Nat} {ev : Value} {J : Nat} {bv bm : Value} {R g M c1 k : Nat} {vs : List Value} (h : NxR w0 j s n ev J bv bm R g M c1 k k vs w) (hk : k < j.n.toNat) (hv : s.vals.length = j.n.toNat)
    (hw : (wokeG j s k).1 = s.vals[k]?.getD ⟨-1, -1⟩) (hs : (wokeG j s k).2 = false) (hb : Below w.heap.size w w') : NxR w0 j s n ev J bv bm R g M c1 (k + 1) (k + 1) vs w' := by
  have h' := h.old hb
  refine ⟨h'.job, h'.st, h'.res, h'.rnd, by rw [valsK_same hk hv hw]; exact h'.own, ?_, h'.below⟩
  rw [msgs_succ, show msgV j s k = [] by unfold msgV; rw [hs]; rfl, List.append_nil]
  exact h'.rows
theorem rows_begin {W : World} {M n : Nat} (S : Nat → Prop) (h : Bk W M 38 (Array.replicate n (Value.slice none 0 0))) : RowsM W M n S [] (List.replicate n (.slice none 0 0)) := by
  refine ⟨by simpa using h, by simp, fun u v hv => ?_, fun u u' v v' g _ hv => ?_⟩
  · have : v = .slice none 0 0 := (List.mem_replicate.1 (List.mem_of_getElem? hv)).2
    subst this
    exact ⟨World.ownsRow_nil _ _ _ _, fun g hg => by cases hg⟩
  · have : v = .slice none 0 0 := (List.mem_replicate.1 (List.mem_of_getElem? hv)).2
    subst this
    intro _ hg; cases hg

/-- One value is written. -/
theorem NxR.val {w0 w : World} {j : Jb} {s : Stt} {n : Nat} {ev : Value} {J : Nat} {bv bm : Value} {R g M c1 k q : Nat} {vs : List Value} (h : NxR w0 j s n ev J bv bm R g M c1 k q vs w) (hk : k < j.n.toNat) (hn : j.n.toNat = n) (hv : s.vals.length = n) (hg : g < R) (hJ : w0.heap.size ≤ J) :
    NxR w0 j s n ev J bv bm R g M c1 (k + 1) q vs ((w.setCell ⟨g, k * 2, none⟩ (.int .i64 (wokeG j s k).1.a)).setCell ⟨g, k * 2 + 1, none⟩ (.int .i64 (wokeG j s k).1.l)) := by
  have hge : J + 1 + 1 + 1 ≤ g := by
    rcases h.own.2 with ⟨e, _⟩ | ⟨g', _, _, e, h1, _⟩
    · cases e
    · injection e with e; injection e with e; injection e with e; omega
  have ne : ∀ {b : Nat} {t : TypeId} {cs : Array Value}, Bk w b t cs → 40 ≠ t → ¬ (b = g) := fun hb ht e => own_ne h.own rfl hb ht e.symm
  have C : Chg (· = g) w ((w.setCell ⟨g, k * 2, none⟩ (.int .i64 (wokeG j s k).1.a)).setCell ⟨g, k * 2 + 1, none⟩ (.int .i64 (wokeG j s k).1.l)) := ((Chg.refl (· = g) w).setCell (p := ⟨g, k * 2, none⟩) rfl _).setCell (p := ⟨g, k * 2 + 1, none⟩) rfl _
  refine ⟨h.job.chg C (ne h.job (by decide)), h.st.chg C (ne h.st (by decide)), h.res.chg C (ne h.res (by decide)), h.rnd.chg C (ne h.rnd (by decide)), ?_, h.rows.chg C (ne h.rows.blk (by decide)) (fun g' hg' e => by omega), (h.below.setCell (p := ⟨g, k * 2, none⟩) (by show _ ≤ g; omega) _).setCell (p := ⟨g, k * 2 + 1, none⟩) (by show _ ≤ g; omega) _⟩
  rw [← valsK_set hk (by omega), ← flat_set _ _ _ (by rw [valsK_len (by omega) (by omega)]; exact hk)]
  exact ((h.own.stored (k * 2) _).1.stored (k * 2 + 1) _).1
theorem NxR.quietly {w0 w : World} {j : Jb} {s : Stt} {n : Nat} {ev : Value} {J : Nat} {bv bm : Value} {R g M c1 k q : Nat} {vs : List Value} (h : NxR w0 j s n ev J bv bm R g M c1 k q vs w) (hs : (wokeG j s q).2 = false) : NxR w0 j s n ev J bv bm R g M c1 k (q + 1) vs w := by
  refine ⟨h.job, h.st, h.res, h.rnd, h.own, ?_, h.below⟩
  rw [msgs_succ, show msgV j s q = [] by unfold msgV; rw [hs]; rfl, List.append_nil]
  exact h.rows
/-- A vertex has spoken. -/
theorem NxR.said {w0 w w' : World} {j : Jb} {s : Stt} {n : Nat} {ev : Value} {J : Nat} {bv bm : Value} {R g M c1 k q : Nat} {vs vs' : List Value} (h : NxR w0 j s n ev J bv bm R g M c1 k q vs w) (hs : (wokeG j s q).2 = true)
    (hr : RowsM w' M n (R + 1 ≤ ·) (msgsG j s q ++ sayV j.kind s.phase q (wokeG j s q).1 j.es) vs') (hc : Chg (fun k => k = M ∨ R + 1 ≤ k) w w') (hJ : w0.heap.size ≤ J) (hJR : J + 1 + 1 < R) (hJM : J + 1 + 1 < M) (hg : g < R) (hsz : w0.heap.size ≤ w.heap.size) : NxR w0 j s n ev J bv bm R g M c1 k (q + 1) vs' w' := by
  have nM : R ≠ M := Bk.ne h.rnd h.rows.blk (by decide)
  have gM : g ≠ M := own_ne h.own rfl h.rows.blk (by decide)
  refine ⟨h.job.chg hc (by omega), h.st.chg hc (by omega), h.res.chg hc (by omega), h.rnd.chg hc (by omega), own_chg h.own hc (fun g' hg' => by simp [Value.ownBlock] at hg'; omega), ?_, h.below.trans (hc.below hsz (fun k hk => by omega))⟩
  rw [msgs_succ, show msgV j s q = sayV j.kind s.phase q (wokeG j s q).1 j.es by unfold msgV; rw [hs]; rfl]
  exact hr
theorem NxR.say {w0 w : World} {j : Jb} {s : Stt} {n : Nat} {ev : Value} {J : Nat} {bv bm : Value} {R g M c1 k q : Nat} {vs : List Value} (h : NxR w0 j s n ev J bv bm R g M c1 k q vs w) (hj : GoodJ j) (hs : GoodS j s) (hm : SmallJ j) (hn : j.n = (n : Int)) (hq : q < n) (hsd : (wokeG j s q).2 = true)
    (hsum : j.kind = 1 → ∀ v, v < j.n.toNat → ∀ e ∈ j.es, (wokeG j s v).1.a + e.g ≤ 4398046511104) (he : Sl 3 encE w0 w0.heap.size ev j.es) (hR : w0.heap.size ≤ R) (hM : w0.heap.size ≤ M) :
    Calls Try.prog 27 #[.pointer (some ⟨R, 0, none⟩), .int .i64 (q : Int), .agg #[.int .i64 (wokeG j s q).1.a, .int .i64 (wokeG j s q).1.l], .int .i64 s.phase] w (SayR M n (R + 1) (msgsG j s q ++ sayV j.kind s.phase q (wokeG j s q).1 j.es) w) := by
  have wv := woke_val hj hs (v := q) (by omega)
  have ml := msgs_len j s q
  have few := hm.few
  have hq2 : q * (2 * j.es.length) ≤ j.n.toNat * (2 * j.es.length) := Nat.mul_le_mul_right _ (by omega)
  have es6 := (checkG_zero hj.g).2.2.1
  have hrnd := h.rnd
  rw [← hn] at hrnd
  have hR' := h.rnd.lt
  exact rsay_any R M n (R + 1) w0.heap.size j ev ⟨s.step + 1, s.phase, false, false, [], []⟩ (.slice (some ⟨g, 0, none⟩) n c1) n q (wokeG j s q).1 s.phase (msgsG j s q) vs w hj hn hs.phase wv.1 (by have := wv.2 hsd; omega) (fun hk e he => hsum hk q (by omega) e he) (by omega)
    hrnd (he.below h.below) (by omega) (by omega) hM (by omega) h.rows
end Go.Proofs.Ytbholafggbdieaa
