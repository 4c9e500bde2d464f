/- Decimal digits are read as the number they were written for. Plain lists; no program in sight. -/
import Derived.Test.YteehgoaibblpfaaDoorWords
namespace Go.Proofs.YteehgoaibblpfaaDoor

def digit (c : UInt8) : Prop := 48 ≤ c.toNat ∧ c.toNat ≤ 57
theorem ofNat_toNat {k : Nat} (h : k < 256) : (UInt8.ofNat k).toNat = k := by simp; omega

theorem dec_digits : ∀ (u : Nat), ∀ c ∈ Lib.decDigits u, digit c := by
  intro u
  induction u using Nat.strongRecOn with
  | ind u ih =>
    intro c hc
    rw [Lib.decDigits] at hc
    split at hc
    · simp only [List.mem_singleton] at hc
      subst hc; unfold digit; rw [ofNat_toNat (by omega)]; omega
    · rcases List.mem_append.1 hc with h | h
      · exact ih _ (by omega) c h
      · simp only [List.mem_singleton] at h
        subst h; unfold digit; rw [ofNat_toNat (by omega)]; omega
theorem dec_ne (u : Nat) : Lib.decDigits u ≠ [] := by
  rw [Lib.decDigits]; split <;> simp
theorem dec_len : ∀ (k u : Nat), u < 10 ^ (k + 1) → (Lib.decDigits u).length ≤ k + 1
  | 0, u, h => by
    rw [Lib.decDigits, dif_pos (by omega)]; simp
  | k + 1, u, h => by
    rw [Lib.decDigits]
    split
    · simp
    · have := dec_len k (u / 10) (by rw [Nat.pow_succ] at h; omega)
      simp; omega

theorem parse_app : ∀ (l r : List UInt8) (acc : Nat), Lib.parseUint10 acc (l ++ r) = match Lib.parseUint10 acc l with | .ok v => Lib.parseUint10 v r | x => x
  | [], _, _ => rfl
  | c :: l, r, acc => by
    simp only [List.cons_append, Lib.parseUint10]
    split
    · split
      · rfl
      · split
        · rfl
        · exact parse_app l r _
    · rfl
theorem parse_dec : ∀ (u : Nat), u < 18446744073709551616 → Lib.parseUint10 0 (Lib.decDigits u) = .ok u := by
  intro u
  induction u using Nat.strongRecOn with
  | ind u ih =>
    intro hu
    rw [Lib.decDigits]
    split
    · simp only [Lib.parseUint10]
      rw [ofNat_toNat (by omega), if_pos (by omega), if_neg (by omega), if_neg (by omega)]
      congr 1; omega
    · rw [parse_app, ih _ (by omega) (by omega)]
      simp only [Lib.parseUint10]
      rw [ofNat_toNat (by omega), if_pos (by omega), if_neg (by omega), if_neg (by omega)]
      congr 1; omega

theorem itoa_nat {n : Int} (h : 0 ≤ n) : Lib.itoa n = Lib.decDigits n.toNat := by unfold Lib.itoa; rw [if_neg (by omega)]
theorem itoa_digits {n : Int} (h : 0 ≤ n) : ∀ c ∈ Lib.itoa n, digit c := by rw [itoa_nat h]; exact dec_digits _
theorem itoa_no {n : Int} (h : 0 ≤ n) {c : UInt8} (hc : ¬ digit c) : c ∉ Lib.itoa n := fun e => hc (itoa_digits h c e)
theorem no32 : ¬ digit 32 := by unfold digit; decide
theorem no10 : ¬ digit 10 := by unfold digit; decide

theorem atoi_itoa {n : Int} (h0 : 0 ≤ n) (h1 : n ≤ 9223372036854775807) : Lib.atoiAll (Lib.itoa n) = .ok n := by
  have hp := parse_dec n.toNat (by omega)
  have hd := dec_digits n.toNat
  have hne := dec_ne n.toNat
  rw [itoa_nat h0]
  cases hl : Lib.decDigits n.toNat with
  | nil => exact absurd hl hne
  | cons c r =>
    rw [hl] at hp hd
    have hc := hd c (by simp)
    unfold digit at hc
    have hm : Lib.parseMag (c :: r) = .ok n.toNat := by simp [Lib.parseMag, hp]
    have h45 : ¬ c.toNat = 45 := by omega
    simp only [Lib.atoiAll]
    rw [if_neg (show ¬(c.toNat = 43 ∨ c.toNat = 45) by omega), hm]
    simp only [h45, not_false_eq_true, true_and, false_and, if_false]
    rw [if_neg (by omega)]
    congr 1; omega
theorem atoiV_itoa {n : Int} (h0 : 0 ≤ n) (h1 : n ≤ 9223372036854775807) : atoiV (Lib.itoa n) = n := by unfold atoiV; rw [atoi_itoa h0 h1]
theorem atoiOk_itoa {n : Int} (h0 : 0 ≤ n) (h1 : n ≤ 9223372036854775807) : atoiOk (Lib.itoa n) = true := by unfold atoiOk; rw [atoi_itoa h0 h1]

end Go.Proofs.YteehgoaibblpfaaDoor
