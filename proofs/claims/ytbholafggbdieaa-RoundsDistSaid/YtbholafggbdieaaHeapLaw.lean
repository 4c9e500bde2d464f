/- A heap of spots: in plain lists; container/heap's up and down. -/
import Derived.Test.YtbholafggbdieaaSpots
namespace Go.Proofs.Ytbholafggbdieaa
open Go.RowKit

def ff (l : List Sp) (i : Nat) : Int := (sp l i).f
/-- The first k are a heap. -/
def HpOK (l : List Sp) (k : Nat) : Prop := ∀ i, 0 < i → i < k → ff l ((i - 1) / 2) ≤ ff l i
/-- A heap but for place j, which may be too small. -/
structure HpUp (l : List Sp) (j : Nat) : Prop where
  lt : j < l.length
  ok : ∀ i, 0 < i → i < l.length → i ≠ j → ff l ((i - 1) / 2) ≤ ff l i
  gr : 0 < j → ∀ c, 0 < c → c < l.length → (c - 1) / 2 = j → ff l ((j - 1) / 2) ≤ ff l c
/-- The first k are a heap but for place j, which may be too great. -/
structure HpDn (l : List Sp) (k j : Nat) : Prop where
  le : k ≤ l.length
  ok : ∀ i, 0 < i → i < k → (i - 1) / 2 ≠ j → ff l ((i - 1) / 2) ≤ ff l i
  gr : 0 < j → ∀ c, 0 < c → c < k → (c - 1) / 2 = j → ff l ((j - 1) / 2) ≤ ff l c
theorem ff_swap {l : List Sp} {i j k : Nat} (hi : i < l.length) (hj : j < l.length) : ff (swapL l i j) k = if k = j then ff l i else if k = i then ff l j else ff l k := by
  unfold ff; rw [sp_swap hi hj]; split
  · rfl
  · split <;> rfl
theorem up_ok {l : List Sp} {j : Nat} (h : HpUp l j) (hs : 0 < j → ¬ ff l j < ff l ((j - 1) / 2)) : HpOK l l.length := by
  intro i h0 hi
  by_cases e : i = j
  · subst e; have := hs h0; omega
  · exact h.ok i h0 hi e
theorem up_step {l : List Sp} {j : Nat} (h : HpUp l j) (h0 : 0 < j) (hs : ff l j < ff l ((j - 1) / 2)) : HpUp (swapL l ((j - 1) / 2) j) ((j - 1) / 2) := by
  have hj := h.lt
  have hp : (j - 1) / 2 < l.length := by omega
  have hf : ∀ k, ff (swapL l ((j - 1) / 2) j) k = if k = j then ff l ((j - 1) / 2) else if k = (j - 1) / 2 then ff l j else ff l k := fun k => ff_swap hp hj
  have hl : (swapL l ((j - 1) / 2) j).length = l.length := swapL_len _ _ _
  refine ⟨by rw [hl]; exact hp, fun i hi0 hi hne => ?_, fun hp0 c hc0 hc hcp => ?_⟩
  · rw [hl] at hi
    rw [hf, hf]
    by_cases e1 : i = j
    · subst e1
      rw [if_neg (by omega), if_pos rfl, if_pos rfl]; omega
    · rw [if_neg e1, if_neg hne]
      have hio := h.ok i hi0 hi e1
      by_cases e2 : (i - 1) / 2 = j
      · rw [if_pos e2]
        exact h.gr h0 i hi0 hi e2
      · rw [if_neg e2]
        by_cases e3 : (i - 1) / 2 = (j - 1) / 2
        · rw [if_pos e3]; rw [e3] at hio; omega
        · rw [if_neg e3]; exact hio
  · rw [hl] at hc
    rw [hf, hf]
    have g1 := h.ok ((j - 1) / 2) hp0 hp (by omega)
    rw [if_neg (show ¬ ((j - 1) / 2 - 1) / 2 = j by omega), if_neg (show ¬ ((j - 1) / 2 - 1) / 2 = (j - 1) / 2 by omega)]
    by_cases e1 : c = j
    · rw [if_pos e1]; exact g1
    · rw [if_neg e1, if_neg (by omega)]
      have := h.ok c hc0 hc e1
      rw [hcp] at this
      omega
theorem dn_ok {l : List Sp} {k j : Nat} (h : HpDn l k j) (hs : ∀ c, 0 < c → c < k → (c - 1) / 2 = j → ff l j ≤ ff l c) : HpOK l k := by
  intro i h0 hi
  by_cases e : (i - 1) / 2 = j
  · rw [e]; exact hs i h0 hi e
  · exact h.ok i h0 hi e
theorem dn_step {l : List Sp} {k j c : Nat} (h : HpDn l k j) (c0 : 0 < c) (ck : c < k) (cj : (c - 1) / 2 = j) (hmin : ∀ d, 0 < d → d < k → (d - 1) / 2 = j → ff l c ≤ ff l d) (hs : ff l c < ff l j) : HpDn (swapL l j c) k c := by
  have hk := h.le
  have hcl : c < l.length := by omega
  have hjl : j < l.length := by omega
  have hf : ∀ x, ff (swapL l j c) x = if x = c then ff l j else if x = j then ff l c else ff l x := fun x => ff_swap hjl hcl
  refine ⟨by rw [swapL_len]; exact hk, fun i hi0 hi hne => ?_, fun _ d hd0 hd hdc => ?_⟩
  · rw [hf, hf, if_neg hne]
    by_cases e1 : i = c
    · subst e1
      rw [if_pos rfl, cj, if_pos rfl]; omega
    · rw [if_neg e1]
      by_cases e2 : i = j
      · subst e2
        rw [if_neg (show ¬ (i - 1) / 2 = i by omega), if_pos rfl]
        exact h.gr hi0 c c0 ck cj
      · rw [if_neg e2]
        by_cases e3 : (i - 1) / 2 = j
        · rw [if_pos e3]; exact hmin i hi0 hi e3
        · rw [if_neg e3]; exact h.ok i hi0 hi e3
  · rw [hf, hf, cj, if_neg (show ¬ j = c by omega), if_pos rfl, if_neg (show ¬ d = c by omega), if_neg (show ¬ d = j by omega)]
    have := h.ok d hd0 hd (by omega)
    rw [hdc] at this
    exact this
theorem swapL_perm {l : List Sp} {i j : Nat} (hi : i < l.length) (hj : j < l.length) : (swapL l i j).Perm l := by
  have h1 : (swapL l i j) = (l.toArray.swap i j hi hj).toList := by
    unfold swapL sp
    rw [Array.swap_def]
    simp [hi, hj]
  rw [h1]
  have := Array.swap_perm (xs := l.toArray) (i := i) (j := j) hi hj
  have := Array.Perm.toList this
  simpa using this
/-- The first of a heap is the least. -/
theorem hp_least {l : List Sp} {k : Nat} (h : HpOK l k) : ∀ i, i < k → ff l 0 ≤ ff l i := by
  intro i
  induction i using Nat.strongRecOn with
  | ind i ih =>
    intro hi
    by_cases h0 : i = 0
    · subst h0; exact Int.le_refl _
    · have h1 := h i (by omega) hi
      have h2 := ih ((i - 1) / 2) (by omega) (by omega)
      omega

abbrev heapV (P : Nat) : Value := .iface 91 (.pointer (some ⟨P, 0, none⟩))
/-- The row of a variable, turned in place. -/
def TurnR (g : Nat) (v : Value) (l : List Sp) (ok : List Sp → Prop) (w w' : World) : Prop := ∃ l', l'.Perm l ∧ ok l' ∧ RowS w' v l' ∧ Chg (· = g) w w'
def UpR (g : Nat) (v : Value) (l : List Sp) (w : World) (e : Ending) (w' : World) : Prop := e = .returned (.tuple #[]) ∧ TurnR g v l (fun l' => HpOK l' l'.length) w w'
theorem less_in (g c n : Nat) (l : List Sp) (i j : Nat) (w : World) (hr : RowS w (.slice (some ⟨g, 0, none⟩) n c) l) (hn : l.length = n) (hi : i < n) (hj : j < n) :
    Calls Try.prog 108 #[.slice (some ⟨g, 0, none⟩) n c, .int .i64 i, .int .i64 j] w fun e w' => e = .returned (.bool (decide (ff l i < ff l j))) ∧ ∃ q, w' = w.drewN q := less_any g c n l i j w hr hn hi hj

set_option maxRecDepth 10000 in
set_option maxHeartbeats 2000000 in
theorem up_any (P g c n : Nat) (l : List Sp) (j : Nat) (w : World) (hb : Bk w P 89 #[.slice (some ⟨g, 0, none⟩) n c]) (hr : RowS w (.slice (some ⟨g, 0, none⟩) n c) l) (hn : l.length = n) (hn2 : n ≤ 100000) (hu : HpUp l j) :
    Calls Try.prog 52 #[heapV P, .int .i64 j] w (UpR g (.slice (some ⟨g, 0, none⟩) n c) l w) := by
  have ngP : g ≠ P := own_ne hr rfl hb (by decide)
  have hjn : j < n := by rw [← hn]; exact hu.lt
  have HB := Lib.hid hb; have HR := Lib.hid hr; have HU := Lib.hid hu; have HN := Lib.hid hn
  clear hb hr hu hn
  go_enter Try.func52, Try.ntmps52
  go_wp2_with fail
  go_loopw [1] (fun jv wr => ∃ (l1 : List Sp) (k : Nat), k < n ∧ jv = .int .i64 k ∧ l1.Perm l ∧ HpUp l1 k ∧ RowS wr (.slice (some ⟨g, 0, none⟩) n c) l1 ∧ Chg (· = g) w wr) (fun jv _ => (intOf jv).toNat)
  case atStart => exact ⟨l, j, hjn, rfl, List.Perm.refl _, HU.out, HR.out, Chg.refl _ _⟩
  case round =>
    obtain ⟨l1, k, hk, rfl, hp, hu1, hr1, hch⟩ := hrel
    have HP1 := Lib.hid hp; have HU1 := Lib.hid hu1; have HR1 := Lib.hid hr1; have HC1 := Lib.hid hch
    have HL1 := Lib.hid (hp.length_eq.trans HN.out)
    have B1 := HB.out.chg hch (fun e => ngP e.symm)
    have p0 : wr.cell? ⟨P, 0, none⟩ = some (.slice (some ⟨g, 0, none⟩) n c) := B1.cell 0
    have HB1 := Lib.hid B1
    clear hp hu1 hr1 hch B1
    rcases Nat.eq_zero_or_pos k with h0 | h0
    · subst h0
      have FIN := Lib.hid (up_ok HU1.out (fun h => absurd h (by omega)))
      go_wp2
      go_end0
      exact ⟨rfl, l1, HP1.out, FIN.out, HR1.out, HC1.out⟩
    · obtain ⟨m, rfl⟩ : ∃ m, k = m + 1 := ⟨k - 1, by omega⟩
      have ML := meth_Less P _ wr p0
      have hne : (((m / 2 : Nat) : Int) == (m : Int) + 1) = false := by rw [beq_eq_false_iff_ne]; omega
      have LS := Lib.hid (less_in g c n l1 (m + 1) (m / 2) wr HR1.out HL1.out hk (by omega))
      go_wp2_with fail
      refine Calls.mono LS.out ?_
      rintro e w2 ⟨rfl, q, rfl⟩
      have pq : (wr.drewN q).cell? ⟨P, 0, none⟩ = some (.slice (some ⟨g, 0, none⟩) n c) := p0
      have MS := meth_Swap P _ (wr.drewN q) pq
      have RQ : RowS (wr.drewN q) (.slice (some ⟨g, 0, none⟩) n c) l1 := HR1.out
      have CQ := HC1.out.drewN q
      have HRQ := Lib.hid RQ; have HCQ := Lib.hid CQ
      clear RQ CQ
      by_cases hs : ff l1 (m + 1) < ff l1 (m / 2)
      · have ts : decide (ff l1 (m + 1) < ff l1 (m / 2)) = true := by simpa using hs
        rw [ts]
        have ST := Lib.hid (up_step HU1.out (by omega) hs)
        have PM := Lib.hid ((swapL_perm (i := (m + 1 - 1) / 2) (j := m + 1) (by rw [HL1.out]; omega) (by rw [HL1.out]; exact hk)).trans HP1.out)
        have SW := Lib.hid (swap_any g c n l1 (m / 2) (m + 1) (wr.drewN q) HRQ.out HL1.out (by omega) hk)
        clear hs ts ML
        go_wp2_with fail
        refine Calls.mono SW.out ?_
        rintro e w3 ⟨rfl, hr3, hc3⟩
        have R3 := Lib.hid hr3
        have C3 := Lib.hid (HCQ.out.trans hc3)
        clear hr3 hc3 SW MS pq
        go_wp2
        go_roundw
        case rel => exact ⟨_, m / 2, by omega, rfl, PM.out, ST.out, R3.out, C3.out⟩
        case measure => simp [intOf]; omega
      · have ts : decide (ff l1 (m + 1) < ff l1 (m / 2)) = false := by simpa using hs
        rw [ts]
        have FIN := Lib.hid (up_ok HU1.out (fun _ => hs))
        clear hs ts ML MS
        go_wp2
        go_end0
        exact ⟨rfl, l1, HP1.out, FIN.out, HRQ.out, HCQ.out⟩

def DnR (g : Nat) (v : Value) (l : List Sp) (k : Nat) (w : World) (e : Ending) (w' : World) : Prop := ∃ b, e = .returned (.bool b) ∧ TurnR g v l (fun l' => HpOK l' k ∧ ∀ i, k ≤ i → sp l' i = sp l i) w w'
theorem swap_keep {l : List Sp} {i j k : Nat} (hi : i < k) (hj : j < k) (hk : k ≤ l.length) : ∀ x, k ≤ x → sp (swapL l i j) x = sp l x := by
  intro x hx
  rw [sp_swap (by omega) (by omega), if_neg (by omega), if_neg (by omega)]

set_option maxRecDepth 10000 in
set_option maxHeartbeats 4000000 in
theorem down_any (P g c n : Nat) (l : List Sp) (k : Nat) (w : World) (hb : Bk w P 89 #[.slice (some ⟨g, 0, none⟩) n c]) (hr : RowS w (.slice (some ⟨g, 0, none⟩) n c) l) (hn : l.length = n) (hn2 : n ≤ 100000) (hk : k ≤ n) (hu : HpDn l k 0) :
    Calls Try.prog 51 #[heapV P, .int .i64 0, .int .i64 k] w (DnR g (.slice (some ⟨g, 0, none⟩) n c) l k w) := by
  have ngP : g ≠ P := own_ne hr rfl hb (by decide)
  have HB := Lib.hid hb; have HR := Lib.hid hr; have HU := Lib.hid hu; have HN := Lib.hid hn
  clear hb hr hu hn
  go_enter Try.func51, Try.ntmps51
  go_wp2_with fail
  go_loopw [7] (fun iv wr => ∃ (l1 : List Sp) (i : Nat), i ≤ n ∧ iv = .int .i64 i ∧ l1.Perm l ∧ HpDn l1 k i ∧ Hid (∀ x, k ≤ x → sp l1 x = sp l x) ∧ RowS wr (.slice (some ⟨g, 0, none⟩) n c) l1 ∧ Chg (· = g) w wr) (fun iv _ => n - (intOf iv).toNat)
  case atStart => exact ⟨l, 0, by omega, rfl, List.Perm.refl _, HU.out, fun _ _ => rfl, HR.out, Chg.refl _ _⟩
  case round =>
    obtain ⟨l1, i, hi, rfl, hp, hu1, hkp, hr1, hch⟩ := hrel
    have HP1 := Lib.hid hp; have HU1 := Lib.hid hu1; have HR1 := Lib.hid hr1; have HC1 := Lib.hid hch
    have HL1 := Lib.hid (hp.length_eq.trans HN.out)
    have B1 := HB.out.chg hch (fun e => ngP e.symm)
    have p0 : wr.cell? ⟨P, 0, none⟩ = some (.slice (some ⟨g, 0, none⟩) n c) := B1.cell 0
    have HB1 := Lib.hid B1
    clear hp hu1 hr1 hch B1
    by_cases h1 : k ≤ 2 * i + 1
    · have FIN := Lib.hid (dn_ok HU1.out (fun d d0 dk dp => by omega))
      have t1 : decide ((k : Int) ≤ 2 * (i : Int) + 1) = true := decide_eq_true (by omega)
      clear p0
      go_wp2_with fail
      go_ret
      exact ⟨_, rfl, l1, HP1.out, ⟨FIN.out, hkp.out⟩, HR1.out, HC1.out⟩
    · have t1 : decide ((k : Int) ≤ 2 * (i : Int) + 1) = false := decide_eq_false (by omega)
      have t2 : decide (2 * (i : Int) + 1 < 0) = false := decide_eq_false (by omega)
      have ML := meth_Less P _ wr p0
      by_cases h2 : 2 * i + 2 < k
      · have t3 : decide (2 * (i : Int) + 1 + 1 < (k : Int)) = true := decide_eq_true (by omega)
        have LS := Lib.hid (less_in g c n l1 (2 * i + 2) (2 * i + 1) wr HR1.out HL1.out (by omega) (by omega))
        go_wp2_with fail
        refine Calls.mono LS.out ?_
        rintro e w2 ⟨rfl, q, rfl⟩
        have pq : (wr.drewN q).cell? ⟨P, 0, none⟩ = some (.slice (some ⟨g, 0, none⟩) n c) := p0
        have RQ := Lib.hid (show RowS (wr.drewN q) (.slice (some ⟨g, 0, none⟩) n c) l1 from HR1.out)
        have CQ := Lib.hid (HC1.out.drewN q)
        clear ML p0
        generalize wr.drewN q = wq at *
        by_cases h3 : ff l1 (2 * i + 2) < ff l1 (2 * i + 1)
        · have t4 : decide (ff l1 (2 * i + 2) < ff l1 (2 * i + 1)) = true := by simpa using h3
          rw [t4]
          have MIN : Hid (∀ d, 0 < d → d < k → (d - 1) / 2 = i → ff l1 (2 * i + 2) ≤ ff l1 d) := by
            intro d d0 dk dp
            have : d = 2 * i + 1 ∨ d = 2 * i + 2 := by omega
            rcases this with rfl | rfl
            · omega
            · exact Int.le_refl _
          clear h3 t4
          have ML2 := meth_Less P _ wq pq
          have LS2 := Lib.hid (less_in g c n l1 (2 * i + 2) i wq RQ.out HL1.out (by omega) (by omega))
          go_wp2_with fail
          refine Calls.mono LS2.out ?_
          rintro e w3 ⟨rfl, q3, rfl⟩
          have pq3 : (wq.drewN q3).cell? ⟨P, 0, none⟩ = some (.slice (some ⟨g, 0, none⟩) n c) := pq
          have RQ3 := Lib.hid (show RowS (wq.drewN q3) (.slice (some ⟨g, 0, none⟩) n c) l1 from RQ.out)
          have CQ3 := Lib.hid (CQ.out.drewN q3)
          clear ML2
          by_cases hs : ff l1 (2 * i + 2) < ff l1 i
          · have ts : decide (ff l1 (2 * i + 2) < ff l1 i) = true := by simpa using hs
            rw [ts]
            have ST := Lib.hid (dn_step HU1.out (c := 2 * i + 2) (by omega) (by omega) (by omega) MIN.out hs)
            have PM := Lib.hid ((swapL_perm (i := i) (j := 2 * i + 2) (by rw [HL1.out]; omega) (by rw [HL1.out]; omega)).trans HP1.out)
            have KP := Lib.hid (fun x (hx : k ≤ x) => (swap_keep (l := l1) (i := i) (j := 2 * i + 2) (k := k) (by omega) (by omega) (by rw [HL1.out]; omega) x hx).trans (hkp.out x hx))
            have SW := Lib.hid (swap_any g c n l1 i (2 * i + 2) (wq.drewN q3) RQ3.out HL1.out (by omega) (by omega))
            have MS := meth_Swap P _ (wq.drewN q3) pq3
            clear hs ts
            go_wp2_with fail
            refine Calls.mono SW.out ?_
            rintro e w4 ⟨rfl, hr4, hc4⟩
            have R4 := Lib.hid hr4
            have C4 := Lib.hid (CQ3.out.trans hc4)
            clear hr4 hc4 SW MS pq3
            go_wp2
            go_roundw
            case rel => exact ⟨_, 2 * i + 2, by omega, by go_num, PM.out, ST.out, KP.out, R4.out, C4.out⟩
            case measure => simp [intOf]; omega
          · have ts : decide (ff l1 (2 * i + 2) < ff l1 i) = false := by simpa using hs
            rw [ts]
            have FIN := Lib.hid (dn_ok HU1.out (fun d d0 dk dp => by have := MIN.out d d0 dk dp; omega))
            clear hs ts pq3
            go_wp2_with fail
            go_ret
            exact ⟨_, rfl, l1, HP1.out, ⟨FIN.out, hkp.out⟩, RQ3.out, CQ3.out⟩
        · have t4 : decide (ff l1 (2 * i + 2) < ff l1 (2 * i + 1)) = false := by simpa using h3
          rw [t4]
          have MIN : Hid (∀ d, 0 < d → d < k → (d - 1) / 2 = i → ff l1 (2 * i + 1) ≤ ff l1 d) := by
            intro d d0 dk dp
            have : d = 2 * i + 1 ∨ d = 2 * i + 2 := by omega
            rcases this with rfl | rfl
            · exact Int.le_refl _
            · omega
          clear h3 t4
          have ML2 := meth_Less P _ wq pq
          have LS2 := Lib.hid (less_in g c n l1 (2 * i + 1) i wq RQ.out HL1.out (by omega) (by omega))
          go_wp2_with fail
          refine Calls.mono LS2.out ?_
          rintro e w3 ⟨rfl, q3, rfl⟩
          have pq3 : (wq.drewN q3).cell? ⟨P, 0, none⟩ = some (.slice (some ⟨g, 0, none⟩) n c) := pq
          have RQ3 := Lib.hid (show RowS (wq.drewN q3) (.slice (some ⟨g, 0, none⟩) n c) l1 from RQ.out)
          have CQ3 := Lib.hid (CQ.out.drewN q3)
          clear ML2
          by_cases hs : ff l1 (2 * i + 1) < ff l1 i
          · have ts : decide (ff l1 (2 * i + 1) < ff l1 i) = true := by simpa using hs
            rw [ts]
            have ST := Lib.hid (dn_step HU1.out (c := 2 * i + 1) (by omega) (by omega) (by omega) MIN.out hs)
            have PM := Lib.hid ((swapL_perm (i := i) (j := 2 * i + 1) (by rw [HL1.out]; omega) (by rw [HL1.out]; omega)).trans HP1.out)
            have KP := Lib.hid (fun x (hx : k ≤ x) => (swap_keep (l := l1) (i := i) (j := 2 * i + 1) (k := k) (by omega) (by omega) (by rw [HL1.out]; omega) x hx).trans (hkp.out x hx))
            have SW := Lib.hid (swap_any g c n l1 i (2 * i + 1) (wq.drewN q3) RQ3.out HL1.out (by omega) (by omega))
            have MS := meth_Swap P _ (wq.drewN q3) pq3
            clear hs ts
            go_wp2_with fail
            refine Calls.mono SW.out ?_
            rintro e w4 ⟨rfl, hr4, hc4⟩
            have R4 := Lib.hid hr4
            have C4 := Lib.hid (CQ3.out.trans hc4)
            clear hr4 hc4 SW MS pq3
            go_wp2
            go_roundw
            case rel => exact ⟨_, 2 * i + 1, by omega, by go_num, PM.out, ST.out, KP.out, R4.out, C4.out⟩
            case measure => simp [intOf]; omega
          · have ts : decide (ff l1 (2 * i + 1) < ff l1 i) = false := by simpa using hs
            rw [ts]
            have FIN := Lib.hid (dn_ok HU1.out (fun d d0 dk dp => by have := MIN.out d d0 dk dp; omega))
            clear hs ts pq3
            go_wp2_with fail
            go_ret
            exact ⟨_, rfl, l1, HP1.out, ⟨FIN.out, hkp.out⟩, RQ3.out, CQ3.out⟩
      · have t3 : decide (2 * (i : Int) + 1 + 1 < (k : Int)) = false := decide_eq_false (by omega)
        have MIN : Hid (∀ d, 0 < d → d < k → (d - 1) / 2 = i → ff l1 (2 * i + 1) ≤ ff l1 d) := by
          intro d d0 dk dp
          have : d = 2 * i + 1 := by omega
          rw [this]
          exact Int.le_refl _
        have pq := p0
        have RQ := HR1
        have CQ := HC1
        clear ML p0
        generalize hwq : wr = wq at *
        clear hwq
        have ML2 := meth_Less P _ wq pq
        have LS2 := Lib.hid (less_in g c n l1 (2 * i + 1) i wq RQ.out HL1.out (by omega) (by omega))
        go_wp2_with fail
        refine Calls.mono LS2.out ?_
        rintro e w3 ⟨rfl, q3, rfl⟩
        have pq3 : (wq.drewN q3).cell? ⟨P, 0, none⟩ = some (.slice (some ⟨g, 0, none⟩) n c) := pq
        have RQ3 := Lib.hid (show RowS (wq.drewN q3) (.slice (some ⟨g, 0, none⟩) n c) l1 from RQ.out)
        have CQ3 := Lib.hid (CQ.out.drewN q3)
        clear ML2
        by_cases hs : ff l1 (2 * i + 1) < ff l1 i
        · have ts : decide (ff l1 (2 * i + 1) < ff l1 i) = true := by simpa using hs
          rw [ts]
          have ST := Lib.hid (dn_step HU1.out (c := 2 * i + 1) (by omega) (by omega) (by omega) MIN.out hs)
          have PM := Lib.hid ((swapL_perm (i := i) (j := 2 * i + 1) (by rw [HL1.out]; omega) (by rw [HL1.out]; omega)).trans HP1.out)
          have KP := Lib.hid (fun x (hx : k ≤ x) => (swap_keep (l := l1) (i := i) (j := 2 * i + 1) (k := k) (by omega) (by omega) (by rw [HL1.out]; omega) x hx).trans (hkp.out x hx))
          have SW := Lib.hid (swap_any g c n l1 i (2 * i + 1) (wq.drewN q3) RQ3.out HL1.out (by omega) (by omega))
          have MS := meth_Swap P _ (wq.drewN q3) pq3
          clear hs ts
          go_wp2_with fail
          refine Calls.mono SW.out ?_
          rintro e w4 ⟨rfl, hr4, hc4⟩
          have R4 := Lib.hid hr4
          have C4 := Lib.hid (CQ3.out.trans hc4)
          clear hr4 hc4 SW MS pq3
          go_wp2
          go_roundw
          case rel => exact ⟨_, 2 * i + 1, by omega, by go_num, PM.out, ST.out, KP.out, R4.out, C4.out⟩
          case measure => simp [intOf]; omega
        · have ts : decide (ff l1 (2 * i + 1) < ff l1 i) = false := by simpa using hs
          rw [ts]
          have FIN := Lib.hid (dn_ok HU1.out (fun d d0 dk dp => by have := MIN.out d d0 dk dp; omega))
          clear hs ts pq3
          go_wp2_with fail
          go_ret
          exact ⟨_, rfl, l1, HP1.out, ⟨FIN.out, hkp.out⟩, RQ3.out, CQ3.out⟩
end Go.Proofs.Ytbholafggbdieaa
