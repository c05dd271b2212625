/- Plain Lean on numerals: 'num l' is the number that the bytes l spell in the one way that is allowed; reading what was written gives the number back; no condition. -/
import Derived.Lib.ItoaNum
import Derived.Lib.ItoaMem
import Derived.Lib.AtoiAll
import Derived.Lib.AtoiAllCases
namespace Go.Proofs.YtjamdppihpeijaaGreatDoor

def maxSaid : Int := 1000000000000

theorem parse_snoc : ∀ (l : List UInt8) (acc : Nat) (c : UInt8), Lib.parseUint10 acc (l ++ [c]) =
    match Lib.parseUint10 acc l with
    | .ok a => Lib.parseUint10 a [c]
    | r => r
  | [], acc, c => by simp [Lib.parseUint10]
  | d :: r, acc, c => by
    have ih := parse_snoc r
    simp only [List.cons_append, Lib.parseUint10]
    by_cases h1 : 48 ≤ d.toNat ∧ d.toNat ≤ 57
    · rw [if_pos h1, if_pos h1]
      by_cases h2 : 1844674407370955162 ≤ acc
      · rw [if_pos h2, if_pos h2]
      · rw [if_neg h2, if_neg h2]
        by_cases h3 : 18446744073709551616 ≤ acc * 10 + (d.toNat - 48)
        · rw [if_pos h3, if_pos h3]
        · rw [if_neg h3, if_neg h3, ih]; generalize Lib.parseUint10 (acc * 10 + (d.toNat - 48)) r = q; cases q <;> simp [Lib.parseUint10]
    · rw [if_neg h1, if_neg h1]

theorem digit_toNat (n : Nat) (h : n < 10) : (UInt8.ofNat (48 + n)).toNat = 48 + n := by
  rw [UInt8.toNat_ofNat']; omega

theorem parse_dec (n : Nat) (h : n < 4611686018427387904) : Lib.parseUint10 0 (Lib.decDigits n) = .ok n := by
  induction n using Nat.strongRecOn with
  | _ n ih =>
    rw [Lib.decDigits]
    by_cases h10 : n < 10
    · rw [dif_pos h10]
      have e := digit_toNat n h10
      simp only [Lib.parseUint10, e]
      rw [if_pos (by omega), if_neg (by omega), if_neg (by omega)]
      congr 1; omega
    · rw [dif_neg h10, parse_snoc, ih (n / 10) (by omega) (by omega)]
      have e := digit_toNat (n % 10) (by omega)
      simp only [Lib.parseUint10, e]
      rw [if_pos (by omega), if_neg (by omega), if_neg (by omega)]
      congr 1; omega

theorem dec_ne (n : Nat) : Lib.decDigits n ≠ [] := by
  rw [Lib.decDigits]; split <;> simp

theorem dec_head (n : Nat) : ∃ c r, Lib.decDigits n = c :: r ∧ 48 ≤ c.toNat ∧ c.toNat ≤ 57 := by
  induction n using Nat.strongRecOn with
  | _ n ih =>
    rw [Lib.decDigits]
    by_cases h10 : n < 10
    · rw [dif_pos h10]; exact ⟨_, [], rfl, by rw [digit_toNat n h10]; omega, by rw [digit_toNat n h10]; omega⟩
    · rw [dif_neg h10]
      obtain ⟨c, r, e, h⟩ := ih (n / 10) (by omega)
      exact ⟨c, r ++ [UInt8.ofNat (48 + n % 10)], by rw [e]; rfl, h⟩

theorem atoi_itoa (n : Int) (h0 : -4611686018427387904 < n) (h1 : n < 4611686018427387904) : Lib.atoiAll (Lib.itoa n) = .ok n := by
  by_cases h : n < 0
  · obtain ⟨m, rfl⟩ : ∃ m : Nat, n = -(m : Int) := ⟨(-n).toNat, by omega⟩
    rw [Lib.itoa_neg m (by omega), Lib.atoiAll_minus]
    have : Lib.parseMag (Lib.decDigits m) = .ok m := by unfold Lib.parseMag; rw [if_neg (dec_ne m), parse_dec m (by omega)]
    rw [this]; unfold Lib.signed; dsimp only; rw [if_neg (by omega)]
  · obtain ⟨m, rfl⟩ := Int.eq_ofNat_of_zero_le (show 0 ≤ n by omega)
    rw [Lib.itoa_nonneg]
    have : Lib.parseMag (Lib.decDigits m) = .ok m := by unfold Lib.parseMag; rw [if_neg (dec_ne m), parse_dec m (by omega)]
    obtain ⟨c, r, e, hc, hc2⟩ := dec_head m
    rw [e] at this ⊢
    rw [Lib.atoiAll_plain c r (by omega) (by omega), this]; unfold Lib.signless; dsimp only; rw [if_neg (by omega)]

/-- The number that bytes spell, if they spell one in the one way in which it is written, and it is not beyond 'maxSaid'. -/
def num (l : List UInt8) : Option Int :=
  match Lib.atoiAll l with
  | .ok n => if -maxSaid ≤ n ∧ n ≤ maxSaid ∧ Lib.itoa n = l then some n else none
  | _ => none

theorem num_some {l : List UInt8} {n : Int} : num l = some n ↔ l = Lib.itoa n ∧ -maxSaid ≤ n ∧ n ≤ maxSaid := by
  constructor
  · intro h
    unfold num at h
    split at h
    · split at h
      · rename_i hb; injection h with h; subst h; exact ⟨hb.2.2.symm, hb.1, hb.2.1⟩
      · cases h
    · cases h
  · rintro ⟨rfl, h0, h1⟩
    unfold num
    unfold maxSaid at *
    rw [atoi_itoa n (by omega) (by omega)]
    simp [h0, h1]

theorem num_itoa {n : Int} (h0 : -maxSaid ≤ n) (h1 : n ≤ maxSaid) : num (Lib.itoa n) = some n := num_some.2 ⟨rfl, h0, h1⟩

/-- All numbers of words, if all are numbers. -/
def nums : List (List UInt8) → Option (List Int)
  | [] => some []
  | x :: r => match num x with
    | some n => (nums r).map (n :: ·)
    | none => none
end Go.Proofs.YtjamdppihpeijaaGreatDoor
