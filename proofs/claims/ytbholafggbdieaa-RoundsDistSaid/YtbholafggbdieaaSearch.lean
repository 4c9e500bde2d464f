/- paths.search: what is reached. -/
import Derived.Test.YtbholafggbdieaaHops
import Derived.Test.YtbholafggbdieaaWeakWalk
namespace Go.Proofs.Ytbholafggbdieaa
open Go.RowKit

def boolV (l : List Bool) : Array Value := (l.map Value.bool).toArray
theorem boolV_at {l : List Bool} {k : Nat} (hk : k < l.length) : (boolV l)[k]? = some (.bool (sn l k)) := by
  unfold boolV sn
  rw [List.getElem?_toArray, List.getElem?_map, List.getElem?_eq_getElem hk]
  rfl
theorem boolV_set (l : List Bool) (k : Nat) : (boolV l).setIfInBounds k (.bool true) = boolV (l.set k true) := by
  unfold boolV; simp [List.map_set]
def isNo : Value → Bool
  | .bool false => true
  | _ => false
def unseenW (w : World) (G : Nat) : Nat := match w.heap[G]? with
  | some (.cells cs _ _) => cs.toList.countP isNo
  | _ => 0
theorem unseenW_of {w : World} {G : Nat} {l : List Bool} (h : Bk w G 4 (boolV l)) : unseenW w G = unseen l := by
  unfold unseenW unseen
  unfold Bk at h
  rw [h]
  simp only [boolV, List.countP_map]
  congr 1
  funext b
  cases b <;> rfl
def lenV : Value → Nat
  | .slice _ n _ => n
  | _ => 0
theorem MxE.chg {α : Type} {sz : Nat} {enc : α → List Value} {S : Nat → Prop} {w w' : World} {B : Nat} {v : Value} {ls : List (List α)} (h : MxE sz enc w B v ls) (hc : Chg S w w') (hB : B ≤ w.heap.size) (hn : ∀ k, k < B → ¬ S k) : MxE sz enc w' B v ls := by
  obtain ⟨vs, h1, h2, h3⟩ := h
  exact ⟨vs, h1, h2.chg hc hB hn, fun i u l hu hl => (h3 i u l hu hl).chg hc hB hn⟩
/-- A row cut shorter. -/
theorem own_cut {w : World} {base : Nat} {e : TypeId} {g k m c : Nat} {xs : List Value} (h : w.ownsRow base e 1 (.slice (some ⟨g, 0, none⟩) m c) m xs) (hk : k ≤ m) : w.ownsRow base e 1 (.slice (some ⟨g, 0, none⟩) k c) k (xs.take k) := by
  have hl := h.1
  refine ⟨by rw [List.length_take, hl]; omega, ?_⟩
  rcases h.2 with ⟨hh, _⟩ | ⟨g', cap, cur, e', hb, hg, h1, h2, h3, h4⟩
  · cases hh
  · injection e' with e1 _ e3
    injection e1 with e1
    injection e1 with e1
    subst e1 e3
    refine .inr ⟨g, c, cur, rfl, hb, hg, by omega, h2, h3, ?_⟩
    rw [← h4, List.take_take]
    congr 1
    omega
theorem own_cell {w : World} {base : Nat} {e : TypeId} {g m c : Nat} {xs : List Value} (h : w.ownsRow base e 1 (.slice (some ⟨g, 0, none⟩) m c) m xs) {i : Nat} {x : Value} (hx : xs[i]? = some x) : w.cell? ⟨g, i, none⟩ = some x := by
  rcases h.2 with ⟨hh, _⟩ | ⟨g', cap, cur, e', hb, hg, h1, h2, h3, h4⟩
  · cases hh
  · injection e' with e1 _ _
    injection e1 with e1
    injection e1 with e1
    subst e1
    rw [cell_of_row w g i cur e (0, 0) hg]
    rw [← h4, List.getElem?_take] at hx
    split at hx
    · simpa using hx
    · cases hx
theorem own_lenV {w : World} {base : Nat} {e : TypeId} {sz : Nat} {v : Value} {n : Nat} {xs : List Value} (h : w.ownsRow base e sz v n xs) : lenV v = n := by
  rcases h.2 with ⟨rfl, h0⟩ | ⟨g, cap, cur, rfl, _⟩
  · exact h0.symm
  · rfl

def SearchR (es : List Ed) (n v G : Nat) (w : World) (e : Ending) (w' : World) : Prop := ∃ seen, e = .returned (.tuple #[]) ∧ seen.length = n ∧ (∀ u, u < n → (sn seen u = true ↔ Rc es v u)) ∧ Bk w' G 4 (boolV seen) ∧ Chg (· = G) w w'

set_option maxRecDepth 10000 in
set_option maxHeartbeats 2000000 in
theorem search_any (es : List Ed) (n v G B : Nat) (nv : Value) (w : World) (hn1 : n ≤ 200) (hl6 : es.length ≤ 600) (hg : ∀ e ∈ es, 0 ≤ e.f ∧ e.f < (n : Int) ∧ 0 ≤ e.t ∧ e.t < (n : Int)) (hv : v < n)
    (hm : HopsM w B nv n es) (hB : B ≤ w.heap.size) (hBG : B ≤ G) (hG : Bk w G 4 (boolV (List.replicate n false))) :
    Calls Try.prog 39 #[nv, .int .i64 v, .slice (some ⟨G, 0, none⟩) n n] w (SearchR es n v G w) := by
  obtain ⟨b, o, c, u0, rfl, hc1, hc2, hbB, _, _⟩ := hm.at_ (hopsG_at es hv)
  have hlenG : (hopsG n es).length = n := by simp [hopsG]
  rw [hlenG] at hc1
  rw [hlenG] at hm ⊢
  unfold maxLen at hc2
  have HM := Lib.hid hm; have HG := Lib.hid hg
  have BEG := Lib.hid (sri_begin (es := es) hv)
  have G0 := hG.set v (.bool true)
  rw [boolV_set] at G0
  have c0 : w.cell? ⟨G, v, none⟩ = some (.bool (sn (List.replicate n false) v)) := by rw [hG.cell, boolV_at (by simpa using hv)]
  have fz := hG.froz v
  have GL := hG.lt
  have HG0 := Lib.hid G0
  clear hm hg G0 hG hlenG
  go_enter Try.func39, Try.ntmps39
  go_wp2_with fail
  clear c0 fz
  have SZ0 : (w.setCell ⟨G, v, none⟩ (.bool true)).heap.size = w.heap.size := by simp [World.setCell]
  have N0 := Bk.new (w.setCell ⟨G, v, none⟩ (.bool true)) 3 #[.int .i64 (v : Int)]
  rw [SZ0] at N0
  have O0 : ((w.setCell ⟨G, v, none⟩ (.bool true)).alloc (.cells #[.int .i64 (v : Int)] 3)).ownsRow w.heap.size 3 1 (.slice (some ⟨w.heap.size, 0, none⟩) 1 1) [v].length ([v].map natV) := ⟨rfl, .inr ⟨w.heap.size, 1, #[.int .i64 (v : Int)], rfl, Nat.le_refl _, N0, Nat.le_refl _, by unfold maxLen; omega, rfl, rfl⟩⟩
  have HO0 := Lib.hid O0
  have HB0 := Lib.hid (HG0.out.alloc (.cells #[.int .i64 (v : Int)] 3))
  have HC0 := Lib.hid (((Chg.refl (· = G) w).setCell (p := ⟨G, v, none⟩) rfl (.bool true)).alloc (.cells #[.int .i64 (v : Int)] 3))
  obtain ⟨i0, hi0, hz0, hz1, hz2⟩ := info_parts infoMail
  have UN0 : Hid ([v].length + unseen ((List.replicate n false).set v true) ≤ n) := by
    have h1 := unseen_set (seen := List.replicate n false) (k := v) (by simpa using hv) (by unfold sn; rw [List.getElem?_replicate]; split <;> rfl)
    have h2 : unseen (List.replicate n false) ≤ n := by unfold unseen; have := List.countP_le_length (p := fun b => !b) (l := List.replicate n false); simpa using this
    unfold Hid; simp only [List.length_singleton]; omega
  clear N0 O0 SZ0
  go_loopw [6] (fun t wr => ∃ (seen : List Bool) (todo : List Nat), wr.ownsRow w.heap.size 3 1 t todo.length (todo.map natV) ∧ Bk wr G 4 (boolV seen) ∧ SrI es n v seen todo none ∧ Chg (· = G) w wr ∧ todo.length + unseen seen ≤ n) (fun t wr => 2 * unseenW wr G + lenV t)
  case atStart => exact ⟨_, [v], HO0.out, HB0.out, BEG.out, HC0.out, UN0.out⟩
  case round =>
    obtain ⟨seen, todo, hown, hbk, hI, hch, htd⟩ := hrel
    have MU : 2 * unseenW wr G + lenV u6 = 2 * unseen seen + todo.length := by rw [unseenW_of hbk, own_lenV hown]
    have HMU := Lib.hid MU
    have Sr := hch.size
    have HBK := Lib.hid hbk; have HI := Lib.hid hI; have HC := Lib.hid hch
    clear MU hbk hI hch
    rcases List.eq_nil_or_concat todo with rfl | ⟨todo', u, rfl⟩
    · obtain ⟨A0, cA, rfl⟩ : ∃ A cA, u6 = .slice A 0 cA := by
        rcases hown.2 with ⟨e, _⟩ | ⟨g, cap, cur, e, _⟩
        · exact ⟨_, _, e⟩
        · exact ⟨_, _, e⟩
      have EN := Lib.hid (sri_end HI.out HG.out hv)
      clear hown
      go_wp2_with fail
      go_end0
      exact ⟨_, rfl, HI.out.len, EN.out, HBK.out, HC.out⟩
    · rw [List.concat_eq_append] at *
      obtain ⟨g, cA, rfl⟩ : ∃ g cA, u6 = .slice (some ⟨g, 0, none⟩) (todo' ++ [u]).length cA := by
        rcases hown.2 with ⟨_, e⟩ | ⟨g, cap, cur, e, _⟩
        · simp at e
        · exact ⟨_, _, e⟩
      obtain ⟨hun, hus⟩ := HI.out.lst u (by simp)
      have c1 : wr.cell? ⟨g, todo'.length, none⟩ = some (.int .i64 (u : Int)) := own_cell hown (by simp [natV])
      have hcap : todo'.length + 1 ≤ cA ∧ cA ≤ 2 ^ 63 - 1 := by
        rcases hown.2 with ⟨e, _⟩ | ⟨g', cap, cur, e, _, _, h1, h2, _⟩
        · cases e
        · injection e with _ _ e3
          subst e3
          simp at h1
          exact ⟨h1, h2⟩
      obtain ⟨hcap1, hcap2⟩ := hcap
      have hcap0 : ¬ cA = 0 := by omega
      have O1 := own_cut hown (k := todo'.length) (by simp)
      rw [List.map_append, List.take_append_of_le_length (by simp), List.take_of_length_le (by simp)] at O1
      have L1 : (todo' ++ [u]).length = todo'.length + 1 := by simp
      have tb : todo'.length ≤ 200 := by simp at htd; omega
      obtain ⟨b', o', c', ru, e', _, _, hbB', hru0, hrow⟩ := HM.out.at_ (hopsG_at es hun)
      injection e' with e1 e0 e3
      clear e0
      injection e1 with e1
      injection e1 with e1 e2
      subst e1 e2 e3
      obtain ⟨AR, cR, rfl, hr1, hr2, hrc⟩ := hrow
      have hru := (HC.out.cell (p := ⟨b, o + u, none⟩) (by simp only; omega) (by simp only; omega)).trans hru0
      clear hru0
      unfold maxLen at hr2
      have P1 := sri_pop HI.out
      have HO1 := Lib.hid O1; have HP1 := Lib.hid P1; have HRC := Lib.hid hrc
      have U1 : unseen seen + todo'.length + 1 ≤ n := by simp at htd; omega
      have HHL : (hopsV es u).length ≤ 600 := by
        unfold hopsV; rw [List.length_map]
        exact Nat.le_trans (List.length_filter_le _ _) hl6
      have HMU2 : Hid (2 * unseenW wr G + lenV (.slice (some ⟨g, 0, none⟩) (todo' ++ [u]).length cA) = 2 * unseen seen + todo'.length + 1) := by
        unfold Hid; rw [HMU.out]; simp; omega
      clear O1 P1 hrc hown HMU htd
      rw [show (todo' ++ [u]).length = todo'.length + 1 by simp] at *
      go_wp2_with fail
      clear c1 hru
      generalize hm0 : 2 * unseen seen + todo'.length = m0 at *
      have HM0 := Lib.hid hm0
      have HLT : Hid (∀ wr' t, 2 * unseenW wr' G + lenV t ≤ m0 → 2 * unseenW wr' G + lenV t < 2 * unseenW wr G + lenV (.slice (some ⟨g, 0, none⟩) (todo'.length + 1) cA)) := by
        intro wr' t h; rw [HMU2.out]; omega
      clear HMU2 hm0
      generalize hl : (hopsV es u).length = len at *
      have HL := Lib.hid hl
      clear hl
      have BR : B ≤ wr.heap.size := by omega
      go_loopw [6, 34] (fun t i wr' => ∃ (sn' : List Bool) (td : List Nat) (q : Nat), q ≤ len ∧ i = .int .i64 q ∧ wr'.ownsRow w.heap.size 3 1 t td.length (td.map natV) ∧ Bk wr' G 4 (boolV sn') ∧ SrI es n v sn' td (some (u, q)) ∧ Chg (· = G) w wr' ∧ td.length + unseen sn' ≤ n ∧ 2 * unseen sn' + td.length ≤ m0) (fun _ i _ => len - (intOf i).toNat)
      case atStart => exact ⟨seen, todo', 0, Nat.zero_le _, rfl, HO1.out, HBK.out, HP1.out, HC.out, by omega, by have := HM0.out; omega⟩
      case round =>
        clear HO1 HP1 HBK HI HC U1 HM0 Sr
        obtain ⟨sn1, td, q, hq, rfl, hown, hbk, hI, hch, hun1, hm1⟩ := hrel
        have Sr := hch.size
        have HBK := Lib.hid hbk; have HI := Lib.hid hI; have HC := Lib.hid hch; have HO := Lib.hid hown
        by_cases hlt : q < len
        · obtain ⟨br, orr, rfl, hbr, hcr⟩ := HRC.out (by omega)
          obtain ⟨h, hh⟩ : ∃ h, (hopsV es u)[q]? = some h := ⟨_, List.getElem?_eq_getElem (by rw [HL.out]; exact hlt)⟩
          have ht : 0 ≤ h.t ∧ h.t < (n : Int) := by
            obtain ⟨e, he, _, e2⟩ := mem_hopsV.1 (List.mem_of_getElem? hh)
            have := HG.out e he
            rw [e2]; exact ⟨this.2.2.1, this.2.2.2⟩
          have h0 := (hch.cell (p := ⟨br, orr + q * 2, none⟩) (by simp only; omega) (by simp only; omega)).trans (hcr q h hh 0 _ rfl)
          have h1 := (hch.cell (p := ⟨br, orr + q * 2 + 1, none⟩) (by simp only; omega) (by simp only; omega)).trans (hcr q h hh 1 _ rfl)
          have NEW := sri_new (x := h.t.toNat) hI hh (by omega) (by omega)
          have OLD := fun hs => sri_old hI hh hs
          obtain ⟨hpt, hpg⟩ := h
          simp only at ht h0 h1 NEW OLD
          obtain ⟨tn, rfl⟩ : ∃ tn : Nat, hpt = (tn : Int) := ⟨hpt.toNat, by omega⟩
          simp only [Int.toNat_natCast] at NEW OLD
          have htn : tn < n := by omega
          have slen := hI.len
          have s0 : wr.cell? ⟨G, tn, none⟩ = some (.bool (sn sn1 tn)) := by rw [hbk.cell, boolV_at (by omega)]
          have sf := hbk.froz tn
          have GL2 := hbk.lt
          have HN := Lib.hid NEW; have HOL := Lib.hid OLD; have HSL := Lib.hid slen
          clear hcr hh NEW OLD hown hbk hI hch slen
          cases hs : sn sn1 tn
          · rw [hs] at s0
            have UN := Lib.hid (unseen_set (by rw [HSL.out]; exact htn) hs)
            clear hs
            have C0 := (Chg.refl (· = G) wr).setCell (p := ⟨G, tn, none⟩) rfl (.bool true)
            have O1 := own_chg HO.out C0 (fun g hg => own_ne HO.out hg HBK.out (by decide))
            have K1 := HBK.out.set tn (.bool true)
            rw [boolV_set] at K1
            have Z1 : (wr.setCell ⟨G, tn, none⟩ (.bool true)).heap.size = wr.heap.size := by simp [World.setCell]
            have B1 := below_two (wr.setCell ⟨G, tn, none⟩ (.bool true)) (.cells #[.int .i64 (tn : Int), .int .i64 hpg] 94) (.cells #[.int .i64 (tn : Int)] 3)
            have N3 := cellr (wr.setCell ⟨G, tn, none⟩ (.bool true)) (.cells #[.int .i64 (tn : Int), .int .i64 hpg] 94) #[.int .i64 (tn : Int)] 3
            rw [Z1] at N3
            have HO3 := Lib.hid (own_old O1 B1); have HK3 := Lib.hid (K1.old B1); have HC3 := Lib.hid (Chg.add (HC.out.setCell (p := ⟨G, tn, none⟩) rfl (.bool true)) B1); have HN3 := Lib.hid N3
            clear B1 O1 K1 C0 N3 Z1
            go_wp2_with (at_builtin; go_loud (refine wpList_append_own _ rfl _ _ 38 rfl w.heap.size 3 i0 (.int .i64 0) 1 8 Try.underlying38 hi0 hz0 hz1 hz2 rfl (by decide) u6 td.length _ rfl HO3.out ⟨wr.heap.size + 1, 0, none⟩ 1 1 [.int .i64 (tn : Int)] rfl rfl ?_ ?_ ?_ ?_ ?_ ?_))
            · intro j' u hj'
              rw [show (⟨wr.heap.size + 1, 0, none⟩ : Addr).add j' = ⟨wr.heap.size + 1, j', none⟩ by unfold Addr.add; split <;> simp_all]
              exact (HN3.out.cell j').trans (by simpa using hj')
            · simp [Value.oneCell']
            · unfold maxLen; omega
            · omega
            · have := HC3.out.size; omega
            intro v2 W2 hown2 hgrow hat
            have O4 : Hid (W2.ownsRow w.heap.size 3 1 v2 (td ++ [tn]).length ((td ++ [tn]).map natV)) := by
              unfold Hid; rw [List.length_append, List.map_append]; exact hown2
            have K4 := HK3.out.grown hgrow (fun e => own_ne HO3.out e.symm HK3.out (by decide) rfl)
            have C4 := Lib.hid (HC3.out.grown hgrow (fun k e hk => by have := HO3.out.lt k e; omega))
            have MU4 : Hid (unseenW W2 G = unseen (sn1.set tn true)) := unseenW_of K4
            have HK4 := Lib.hid K4
            clear hown2 hgrow hat K4
            go_wp2
            go_roundw
            case rel => exact ⟨_, td ++ [tn], q + 1, by omega, by go_num, O4.out, HK4.out, HN.out, C4.out, by have := UN.out; simp; omega, by have := UN.out; simp; omega⟩
            case measure => simp [intOf]; omega
          · rw [hs] at s0
            have OL := Lib.hid (HOL.out hs)
            have B1 := Below.of_alloc wr (.cells #[.int .i64 (tn : Int), .int .i64 hpg] 94)
            have O1 := Lib.hid (own_old HO.out B1)
            have K1 := Lib.hid (HBK.out.old B1)
            have C1 := Lib.hid (Chg.add HC.out B1)
            clear hs B1
            go_wp2
            go_roundw
            case rel => exact ⟨sn1, td, q + 1, by omega, by go_num, O1.out, K1.out, OL.out, C1.out, hun1, hm1⟩
            case measure => simp [intOf]; omega
        · obtain rfl : q = len := by omega
          have DN := Lib.hid (sri_done (by rw [HL.out]; exact hI))
          have MS : Hid (2 * unseenW wr G + lenV u6 = 2 * unseen sn1 + td.length) := by unfold Hid; rw [unseenW_of hbk, own_lenV hown]
          clear hown hbk hI hch
          go_wp2
          go_roundw
          case rel => exact ⟨sn1, td, HO.out, HBK.out, DN.out, HC.out, by omega⟩
          case measure => refine HLT.out _ _ ?_; rw [MS.out]; exact hm1
end Go.Proofs.Ytbholafggbdieaa
