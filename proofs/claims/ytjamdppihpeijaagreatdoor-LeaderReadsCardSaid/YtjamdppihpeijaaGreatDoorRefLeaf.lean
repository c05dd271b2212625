/- The reference's small functions of layer 10 (number, within, step) return what plain Lean functions give; the numbers are of the size that the callers hand them. -/
import Derived.Test.YtjamdppihpeijaaGreatDoorBase
import Derived.Test.YtjamdppihpeijaaGreatDoorSpec
namespace Go.Proofs.YtjamdppihpeijaaGreatDoor
open Go.RowKit

theorem step_any (s b : Int) (w : World) (h0 : 0 ≤ s) (h1 : s < 8191) (h2 : 0 ≤ b) (h3 : b < 256) :
    Calls Tryz.prog 47 #[.int .i64 s, .int .u8 b] w fun e w' => e = .returned (.int .i64 (stepF s b)) ∧ w = w' := by
  go_enter Tryz.func47, Tryz.ntmps47
  go_wp2
  go_ret
  exact ⟨rfl, rfl⟩

def withinB (n lo hi : Int) : Bool := decide (lo ≤ n) && decide (n ≤ hi)
theorem within_any (n lo hi : Int) (w : World) :
    Calls Tryz.prog 46 #[.int .i64 n, .int .i64 lo, .int .i64 hi] w fun e w' => e = .returned (.bool (withinB n lo hi)) ∧ w = w' := by
  by_cases h1 : lo ≤ n <;> by_cases h2 : n ≤ hi <;>
  (go_enter Tryz.func46, Tryz.ntmps46
   go_wp2
   go_ret
   exact ⟨by simp [withinB, h1, h2], rfl⟩)

theorem number_nat (n : Nat) : ∀ (w : World), n < 4611686018427387904 →
    Calls Tryz.prog 45 #[.int .i64 n] w fun e w' => e = .returned (.string ⟨(Lib.decDigits n).toArray⟩) ∧ w = w' := by
  induction n using Nat.strongRecOn with
  | _ n ih =>
    intro w hn
    by_cases h : n < 10
    · clear ih
      go_enter Tryz.func45, Tryz.ntmps45
      go_wp2
      go_ret
      exact ⟨by rw [enc_digit n h, dec_small n h]; rfl, rfl⟩
    · have h10 := Lib.hid (ih (n / 10) (by omega))
      have hm := Lib.hid (ih (n % 10) (by omega))
      clear ih
      go_enter Tryz.func45, Tryz.ntmps45
      go_wp2_with fail
      refine (h10.out _ (by omega)).mono ?_
      rintro e w' ⟨rfl, rfl⟩
      go_wp2_with fail
      refine (hm.out _ (by omega)).mono ?_
      rintro e w' ⟨rfl, rfl⟩
      have L1 := dec_len (n / 10) (by omega)
      have L2 := dec_len (n % 10) (by omega)
      go_wp2
      go_ret
      exact ⟨by rw [dec_big n h, bytes_append]; rfl, rfl⟩
theorem number_any (n : Int) (w : World) (h0 : -4611686018427387904 < n) (h1 : n < 4611686018427387904) :
    Calls Tryz.prog 45 #[.int .i64 n] w fun e w' => e = .returned (.string ⟨(Lib.itoa n).toArray⟩) ∧ w = w' := by
  by_cases h : n < 0
  · obtain ⟨m, rfl⟩ : ∃ m : Nat, n = -(m : Int) := ⟨n.toNat + (-n).toNat, by omega⟩
    have L1 := dec_len m (by omega)
    have hm := Lib.hid (number_nat m)
    go_enter Tryz.func45, Tryz.ntmps45
    go_wp2_with fail
    refine (hm.out _ (by omega)).mono ?_
    rintro e w' ⟨rfl, rfl⟩
    go_wp2
    go_ret
    exact ⟨by rw [Lib.itoa_neg m (by omega)]; rw [show (⟨#[45]⟩ : ByteArray) = ⟨[45].toArray⟩ from rfl, bytes_append]; rfl, rfl⟩
  · obtain ⟨m, rfl⟩ := Int.eq_ofNat_of_zero_le (show 0 ≤ n by omega)
    rw [Lib.itoa_nonneg]
    exact number_nat m w (by omega)
end Go.Proofs.YtjamdppihpeijaaGreatDoor
