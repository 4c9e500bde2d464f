/- RoundsMail: plain words on the number of messages. -/
import Derived.Test.YtbholafggbdieaaRun
import Derived.Test.YtbholafggbdieaaNextWords
namespace Go.Proofs.Ytbholafggbdieaa
open Go.RowKit

theorem msgs_succ_len (j : Jb) (s : Stt) (k : Nat) : (msgsG j s (k + 1)).length = (msgsG j s k).length + (msgV j s k).length := by
  unfold msgsG
  rw [List.range_succ, List.flatMap_append, List.length_append, List.flatMap_cons, List.flatMap_nil, List.append_nil]
theorem sayV_take_len (kind phase v : Int) (x : Vl) (es : List Ed) (i : Nat) (e : Ed) (he : es[i]? = some e) :
    (sayV kind phase v x (es.take (i + 1))).length = (sayV kind phase v x (es.take i)).length + (if outG kind phase = true ∧ e.f = v then 1 else 0) + (if inG kind phase = true ∧ e.t = v then 1 else 0) := by
  unfold sayV
  rw [List.take_add_one, he, List.flatMap_append, List.length_append]
  simp only [Option.toList, List.flatMap_cons, List.flatMap_nil, List.append_nil]
  unfold lineG
  rw [List.length_append]
  split <;> split <;> simp <;> omega
theorem many_next {j : Jb} (hj : GoodJ j) {s : Stt} (hs : GoodS j s) : total (nextG j s).mail = if s.done then 0 else (msgsG j s j.n.toNat).length := by
  cases hd : s.done
  · have : (nextG j s).mail = mailG j s := by
      unfold nextG; rw [hd]; simp only [Bool.false_eq_true, if_false]; split <;> rfl
    rw [this, total_mailG hj]; rfl
  · unfold nextG; rw [hd]
    simp only [if_true]
    rcases hs.none_ with h | ⟨_, h⟩
    · exact h
    · rw [hd] at h; cases h
/-- The sum of the rows' lengths, row by row. -/
theorem total_take_len (mail : List (List Int)) (i : Nat) (l : List Int) (hl : mail[i]? = some l) : total (mail.take (i + 1)) = total (mail.take i) + l.length := by
  unfold total
  rw [List.take_add_one, hl, List.map_append, List.sum_append]
  simp
/-- What region 20 of RoundsMail reads. -/
structure MailS (J S : Nat) (j : Jb) (s : Stt) (fr : Bool) (bv bm : Value) (vc mc : Addr) (u : Value) (ya yl : Int) (w : World) : Prop where
  c0 : w.cell? ⟨J, 2, none⟩ = some (.int .i64 j.kind)
  c1 : w.cell? ⟨J, 3, none⟩ = some (.int .i64 j.src)
  c2 : w.cell? ⟨S, 1, none⟩ = some (.int .i64 s.phase)
  c3 : w.cell? ⟨S, 2, none⟩ = some (.bool fr)
  c4 : w.cell? ⟨S, 4, none⟩ = some bv
  c5 : w.cell? ⟨S, 5, none⟩ = some bm
  c6 : w.cell? vc = some (.int .i64 ya)
  c7 : w.cell? ⟨vc.block, vc.off + 1, none⟩ = some (.int .i64 yl)
  c8 : w.cell? mc = some u
theorem MailS.old {J S : Nat} {j : Jb} {s : Stt} {fr : Bool} {bv bm : Value} {vc mc : Addr} {u : Value} {ya yl : Int} {w w' : World} (h : MailS J S j s fr bv bm vc mc u ya yl w) (hb : Below w.heap.size w w') : MailS J S j s fr bv bm vc mc u ya yl w' := by
  have k : ∀ {p : Addr} {v : Value}, w.cell? p = some v → w'.cell? p = some v := fun {p v} e => (hb.cell (p := p) (World.block_lt_of_cell? w _ e)).trans e
  exact ⟨k h.c0, k h.c1, k h.c2, k h.c3, k h.c4, k h.c5, k h.c6, k h.c7, k h.c8⟩
end Go.Proofs.Ytbholafggbdieaa
