/- The reference's 'Command' answers as the table of words says, at every word and every number of numbers. -/
import Derived.Test.YtjamdppihpeijaaGreatDoorRd
import Derived.Test.YtjamdppihpeijaaGreatDoorCmds
namespace Go.Proofs.YtjamdppihpeijaaGreatDoor
open Go.RowKit

def cmdB (k : Nat) : ByteArray := ⟨((cmds.map (·.1)).getD k []).toArray⟩
def cmdN (k : Nat) : Int := ((cmds.map (·.2)).getD k 0 : Nat)
def WordsPost (w : World) (e : Ending) (w' : World) : Prop :=
  e = .returned (.tuple #[.slice (some ⟨w.heap.size, 0, none⟩) 10 10, .slice (some ⟨w.heap.size + 1, 0, none⟩) 10 10]) ∧ Below w.heap.size w w' ∧ (∀ k, k < 10 → w'.cell? ⟨w.heap.size, k, none⟩ = some (.string (cmdB k))) ∧ (∀ k, k < 10 → w'.cell? ⟨w.heap.size + 1, k, none⟩ = some (.int .i64 (cmdN k)))
theorem lt10 {P : Nat → Prop} (h0 : P 0) (h1 : P 1) (h2 : P 2) (h3 : P 3) (h4 : P 4) (h5 : P 5) (h6 : P 6) (h7 : P 7) (h8 : P 8) (h9 : P 9) : ∀ k, k < 10 → P k := by
  intro k hk
  have : k = 0 ∨ k = 1 ∨ k = 2 ∨ k = 3 ∨ k = 4 ∨ k = 5 ∨ k = 6 ∨ k = 7 ∨ k = 8 ∨ k = 9 := by omega
  rcases this with rfl | rfl | rfl | rfl | rfl | rfl | rfl | rfl | rfl | rfl <;> assumption
theorem words_any (w : World) : Calls Tryz.prog 73 #[] w (WordsPost w) := by
  go_enter Tryz.func73, Tryz.ntmps73
  go_wp2
  go_ret2
  refine ⟨rfl, ((Below.refl _ _).alloc (Nat.le_refl _) _).alloc (by simp) _, ?_, ?_⟩
  · apply lt10 <;> (simp [go_sem]; try rfl)
  · apply lt10 <;> (simp [go_sem]; try rfl)

theorem cmd_fact : ∀ k, k < 10 → ∃ p, cmds[k]? = some p ∧ (cmdB k).data.toList = p.1 ∧ cmdN k = (p.2 : Int) := by
  apply lt10 <;> exact ⟨_, rfl, rfl, rfl⟩
set_option maxHeartbeats 400000 in
theorem command_any (s : ByteArray) (a : Option Addr) (n c : Nat) (w : World) :
    Calls Tryz.prog 49 #[.string s, .slice a n c] w fun e w' => e = .returned (.bool (isCmd s.data.toList n)) ∧ Below w.heap.size w w' := by
  go_enter Tryz.func49, Tryz.ntmps49
  go_wp2_with fail
  refine (words_any w).mono ?_
  rintro e w1 ⟨rfl, hb, hw, hn⟩
  have HW := Lib.hid hw
  have HN := Lib.hid hn
  have HB := Lib.hid hb
  clear hw hn hb
  go_wp2
  go_loop [7] (fun i => ∃ k : Nat, k ≤ 10 ∧ i = .int .i64 k ∧ Hid (∀ j q, j < k → cmds[j]? = some q → q.1 ≠ s.data.toList)) (fun i => 10 - (intOf i).toNat)
  case atStart => exact ⟨0, by omega, rfl, Lib.hid (fun j q h => by omega)⟩
  case round =>
    obtain ⟨k, hk, rfl, HNO⟩ := hrel
    by_cases hlt : k < 10
    · have hc := HW.out k hlt
      have hm := HN.out k hlt
      obtain ⟨p, hp, hpb, hpn⟩ := cmd_fact k hlt
      by_cases heq : p.1 = s.data.toList
      · have hyx : ((cmdB k).toList == s.toList) = true := by rw [toList_data, toList_data, hpb, heq]; simp
        have HFIN : Hid ((((n : Int) == cmdN k)) = isCmd s.data.toList n) := Lib.hid (by
          unfold isCmd; rw [need_at hp heq HNO.out, hpn]
          by_cases h : n = p.2
          · subst h; simp
          · have h1 : ((n : Int) == (p.2 : Int)) = false := beq_eq_false_iff_ne.2 (by omega)
            rw [h1]; simp; omega)
        clear heq hpb hpn hp
        go_wp2
        go_ret
        exact ⟨by rw [← HFIN.out]; rfl, HB.out⟩
      · have hyx : ((cmdB k).toList == s.toList) = false := by rw [toList_data, toList_data, hpb]; simpa using heq
        have HNO2 : Hid (∀ j q, j < k + 1 → cmds[j]? = some q → q.1 ≠ s.data.toList) := Lib.hid (by
          intro j q hj hq
          by_cases h : j = k
          · subst h; rw [hp] at hq; cases hq; exact heq
          · exact HNO.out j q (by omega) hq)
        clear heq hpb hpn hp
        go_wp2
        go_round
        case rel => exact ⟨k + 1, by omega, by go_num, HNO2⟩
        case measure => simp [intOf]; omega
    · obtain rfl : k = 10 := by omega
      have HFIN : Hid (false = isCmd s.data.toList n) := Lib.hid (by unfold isCmd; rw [need_none HNO.out]; rfl)
      go_wp2
      go_ret
      exact ⟨by rw [← HFIN.out]; rfl, HB.out⟩
end Go.Proofs.YtjamdppihpeijaaGreatDoor
