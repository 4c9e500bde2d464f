/- play.Show, of moves that have lines. -/
import Derived.Test.YteehgoaibblpfaaDoorPlayMove
namespace Go.Proofs.YteehgoaibblpfaaDoor
open Go.RowKit

def mlineT (m : Mv) : List UInt8 := (lineR m).1
def playT (ms : List Mv) : List UInt8 := ms.flatMap mlineT
theorem line_good {m : Mv} (h : (lineR m).2 = 0) : ∃ f, formOf m.k = some f ∧ badN f.2.1 m.a = false ∧ badN f.2.2 m.p = false ∧ mlineT m = f.1 ++ partN f.2.1 m.a ++ partN f.2.2 m.p ++ [10] := by
  unfold mlineT
  unfold lineR at h ⊢
  cases hf : formOf m.k with
  | none => rw [hf] at h; cases h
  | some f =>
    rw [hf] at h
    simp only at h ⊢
    split at h
    · cases h
    · rename_i hb
      simp only [Bool.or_eq_true, not_or, Bool.not_eq_true] at hb
      refine ⟨f, rfl, hb.1, hb.2, ?_⟩
      rw [hb.1, hb.2]; rfl
theorem part_len {b : Bool} {n : Int} (h : badN b n = false) : (partN b n).length ≤ 22 := by
  unfold partN
  rcases bad_no h with ⟨h0, h1, rfl⟩ | ⟨rfl, rfl⟩
  · have := itoa_len (n := n) (by omega) (by omega)
    simp; omega
  · simp
theorem form_len {k : Int} {f : List UInt8 × Bool × Bool} (h : formOf k = some f) : f.1.length ≤ 6 := by
  obtain ⟨i, _, _, hf⟩ := form_some h
  exact (show ∀ f ∈ formsL, f.1.length ≤ 6 by decide) f (List.mem_of_getElem? hf)
theorem mline_len {m : Mv} (h : (lineR m).2 = 0) : (mlineT m).length ≤ 51 := by
  obtain ⟨f, hf, h1, h2, e⟩ := line_good h
  have a := form_len hf
  have b := part_len h1
  have c := part_len h2
  rw [e]; simp; omega

set_option maxHeartbeats 1000000 in
theorem pshow_ok (ms : List Mv) (v : Value) (w : World) (hv : Sl 3 encM w w.heap.size v ms) (hl : ms.length ≤ 100000) (hok : ∀ m ∈ ms, (lineR m).2 = 0) (hp : Pow w) (hF : Forms w) :
    Calls Tryd.prog 12 #[v] w fun e w' => e = .returned (.tuple #[.string ⟨(playT ms).toArray⟩, .int .i64 0]) ∧ Below w.heap.size w w' := by
  obtain ⟨A, c, rfl, hvc, hcm, hA⟩ := hv
  have HA := Lib.hid hA; clear hA
  have HK := Lib.hid hok; clear hok
  generalize hlen : ms.length = len at *
  have HL := Lib.hid hlen; clear hlen
  have HP := Lib.hid hp; clear hp
  have HF := Lib.hid hF; clear hF
  have t0 : decide ((100000 : Int) < (len : Int)) = false := by simp; omega
  go_enter Tryd.func12, Tryd.ntmps12
  go_wp2
  have hf1 : Lib.IsBuilderF 48 5 w.heap.size w.heap.size (Lib.byteCells []) (w.alloc (.cells #[.pointer none, .slice none 0 0] 48)) := Lib.IsBuilderF.of (Lib.fresh_isBuilder _ _ w)
  go_loopw [6, 7, 8, 14] (fun _ _ _ i wr => ∃ k : Nat, k ≤ len ∧ i = .int .i64 k ∧ Lib.IsBuilderF 48 5 w.heap.size w.heap.size (Lib.byteCells ((ms.take k).flatMap mlineT)) wr ∧ Below w.heap.size w wr) (fun _ _ _ i wr => len - (intOf i).toNat)
  case atStart => exact ⟨0, Nat.zero_le _, rfl, by simpa using hf1, Below.of_alloc _ _⟩
  case round =>
    clear hf1
    obtain ⟨k, hk, rfl, hbr, hbel⟩ := hrel
    have hB0 := hbel.size
    by_cases hlt : k < len
    · obtain ⟨b, o, rfl, hb, hc⟩ := HA.out (by omega)
      obtain ⟨x, hx⟩ : ∃ x, ms[k]? = some x := ⟨_, List.getElem?_eq_getElem (by rw [HL.out]; exact hlt)⟩
      have hc0 := (hbel.cell (p := ⟨b, o + k * 3, none⟩) hb).trans (hc k x hx 0 _ rfl)
      have hc1 := (hbel.cell (p := ⟨b, o + k * 3 + 1, none⟩) hb).trans (hc k x hx 1 _ rfl)
      have hc2 := (hbel.cell (p := ⟨b, o + k * 3 + 2, none⟩) hb).trans (hc k x hx 2 _ rfl)
      have hgx := HK.out x (List.mem_of_getElem? hx)
      have hbl1 : Below w.heap.size w (wr.alloc (.cells #[.int .i64 x.k, .int .i64 x.a, .int .i64 x.p] 37)) := hbel.alloc hB0 _
      have HX := Lib.hid hx; clear hx hc
      have LN := Lib.hid (mline_any x _ (HF.out.keep hbl1) (pow_keep HP.out hbl1))
      have hln : ((ms.take k).flatMap mlineT).length ≤ 6000000 := by
        have h2 := flat_len (f := mlineT) (m := 51) (l := ms.take k) (fun y hy => mline_len (HK.out y (List.mem_of_mem_take hy)))
        have h3 : (ms.take k).length ≤ k := List.length_take_le _ _
        omega
      have hl2 : (lineR x).1.length ≤ 51 := mline_len hgx
      have hbr2 := builder_old hbr (Below.of_alloc wr (.cells #[.int .i64 x.k, .int .i64 x.a, .int .i64 x.p] 37))
      have HGX := Lib.hid hgx; clear hgx
      go_wp2_with (first
        | (go_at_call 23; refine LN.out.mono ?_; rintro e w2 ⟨rfl, hb2⟩; rw [HGX.out]; have hb2' := builder_old hbr2 hb2; have hB2 := hb2.size; simp only [World.size_alloc] at hB2)
        | (go_at_call 16; refine (writeString_k w.heap.size w.heap.size _ _ _ hb2' (by simp only [Lib.byteCells_length, ByteArray.size, List.size_toArray]; omega) (by omega)).mono ?_; rintro e w3 ⟨rfl, hb3, hbe3, ho3⟩))
      go_roundw
      case rel => exact ⟨k + 1, by omega, by go_num, by rw [flat_take HX.out, Lib.byteCells_append]; simpa [Lib.strCells, Lib.byteCells, mlineT] using hb3, (hbl1.trans (hb2.mono (by simp; omega))).trans hbe3⟩
      case measure => simp [intOf]; omega
    · obtain rfl : k = len := by omega
      go_wp2_with (go_at_call 18; refine (Tryd.Builder_String_any_k w.heap.size w.heap.size _ _ hbr hB0).mono ?_; rintro e w4 ⟨rfl, hf4, hb4, _⟩)
      go_ret2
      refine ⟨?_, hbel.trans hb4⟩
      rw [playT, List.take_of_length_le (by rw [HL.out]; exact Nat.le_refl _)]
      rfl
end Go.Proofs.YteehgoaibblpfaaDoor
